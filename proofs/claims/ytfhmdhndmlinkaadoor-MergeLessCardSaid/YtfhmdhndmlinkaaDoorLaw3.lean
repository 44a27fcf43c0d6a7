/-
  The seat's functions, prepared.
-/
import Derived.Test.YtfhmdhndmlinkaaDoorLaw1
import Derived.Test.YtfhmdhndmlinkaaDoorProg
import Derived.KernelRfl
import Derived.Test.YtfhmdhndmlinkaaDoorLaw2
import Derived.Test.YtfhmdhndmlinkaaDoorEv6
set_option linter.all false
namespace Go.Proofs.YtfhmdhndmlinkaaDoor.U
open Go Go.Ev
/- bobbin/bobbinlaw26.MergeLess -/
abbrev F_law26_MergeLess : FuncId := 3
def P_law26_MergeLess : PC :=
.seq (
.reg [.run (.box 24 (.tmp (far + 0))) none,
  .run (.assign (.const (.bool false))) none] [(2, 0), (1, 1)]) (
.seq (
.seq (
.reg [.run (.load 24 (.tmp (far + 1))) none,
  .run (.call ⟨.value (.func 10), #[(.tmp 0)], #[24]⟩) none,
  .run (.call ⟨.value (.func 11), #[], #[]⟩) (some ((.tmp 0), false)),
  .run (.unOp .not 4 (.tmp 0)) (some ((.tmp 1), false)),
  .run (.pick (.tmp 2) (.const (.bool true)) (.tmp 0)) none] [(20, 0)]) (
.cond (.tmp 20) (
  .seq (
  .reg [.run (.call ⟨.value (.func 11), #[], #[]⟩) none] [(2, 0)]) (
  .ret)) (
  .skip))) (
.seq (
.reg [.run (.load 24 (.tmp (far + 1))) none,
  .run (.call ⟨.value (.func 12), #[(.tmp 0)], #[24]⟩) none,
  .run (.extract (.tmp 0) 0) none,
  .run (.extract (.tmp 1) 1) none,
  .run (.alloc 24) none,
  .run (.store 24 (.tmp 0) (.tmp 2)) none] [(4, 2), (3, 1)]) (
.seq (
.seq (
.reg [.get 4,
  .run (.binOp .neq 27 (.tmp 0) (.const (.int .i64 0)) 27) none] [(28, 0)]) (
.cond (.tmp 28) (
  .seq (
  .reg [.run (.fieldAddr 24 (.tmp (far + 3)) 4) none,
    .run (.load 22 (.tmp 0)) none,
    .run (.call ⟨.builtin .len, #[(.tmp 0)], #[22]⟩) none,
    .run (.binOp .eql 3 (.tmp 0) (.const (.int .i64 0)) 3) none] [(2, 0)]) (
  .ret)) (
  .skip))) (
.seq (
.seq (
.reg [.run (.fieldAddr 24 (.tmp (far + 3)) 4) none,
  .run (.load 22 (.tmp 0)) none,
  .run (.call ⟨.builtin .len, #[(.tmp 0)], #[22]⟩) none,
  .run (.fieldAddr 24 (.tmp (far + 1)) 4) none,
  .run (.load 22 (.tmp 0)) none,
  .run (.call ⟨.builtin .len, #[(.tmp 0)], #[22]⟩) none,
  .run (.binOp .neq 3 (.tmp 3) (.tmp 0) 3) none] [(39, 0)]) (
.cond (.tmp 39) (
  .seq (
  .reg [.run (.assign (.const (.bool false))) none] [(2, 0)]) (
  .ret)) (
  .skip))) (
.seq (
.seq (
.reg [.run (.assign (.const (.int .i64 0))) none] [(5, 0)]) (
.block 0 (
 .loop (
  .seq (
  .seq (
  .reg [.get 5,
    .run (.fieldAddr 24 (.tmp (far + 1)) 4) none,
    .run (.load 22 (.tmp 0)) none,
    .run (.call ⟨.builtin .len, #[(.tmp 0)], #[22]⟩) none,
    .run (.binOp .lss 3 (.tmp 3) (.tmp 0) 3) none] [(44, 0)]) (
  .cond (.tmp 44) (
    .skip) (
    .exit 0))) (
  .seq (
  .block 1 (
   .seq (
   .reg [.run (.fieldAddr 24 (.tmp (far + 1)) 4) none,
     .run (.load 22 (.tmp 0)) none,
     .get 5,
     .run (.indexAddr 22 (.tmp 1) (.tmp 0)) none,
     .run (.fieldAddr 34 (.tmp 0) 1) none,
     .run (.load 31 (.tmp 0)) none,
     .run (.fieldAddr 24 (.tmp (far + 3)) 4) none,
     .run (.load 22 (.tmp 0)) none,
     .get 5,
     .run (.indexAddr 22 (.tmp 1) (.tmp 0)) none,
     .run (.fieldAddr 34 (.tmp 0) 1) none,
     .run (.load 31 (.tmp 0)) none] [(7, 0), (6, 6)]) (
   .seq (
   .reg [.get 7,
     .run (.call ⟨.value (.func 13), #[(.tmp 0)], #[31]⟩) none,
     .run (.extract (.tmp 0) 0) none,
     .run (.extract (.tmp 1) 1) none] [(8, 1)]) (
   .seq (
   .seq (
   .reg [.get 8,
     .run (.binOp .geq 3 (.tmp 0) (.const (.int .i64 0)) 3) none] [(65, 0)]) (
   .cond (.tmp 65) (
     .seq (
     .reg [.run (.assign (.const (.bool false))) none] [(2, 0)]) (
     .ret)) (
     .skip))) (
   .seq (
   .reg [.run (.assign (.const (.int .i64 0))) none] [(10, 0)]) (
   .seq (
   .seq (
   .reg [.run (.assign (.const (.int .i64 0))) none] [(11, 0)]) (
   .block 2 (
    .loop (
     .seq (
     .seq (
     .reg [.get 11,
       .get 6,
       .run (.call ⟨.builtin .len, #[(.tmp 0)], #[31]⟩) none,
       .run (.binOp .lss 3 (.tmp 2) (.tmp 0) 3) none] [(69, 0)]) (
     .cond (.tmp 69) (
       .skip) (
       .exit 2))) (
     .seq (
     .block 3 (
      .seq (
      .seq (
      .reg [.get 10,
        .get 7,
        .run (.call ⟨.builtin .len, #[(.tmp 0)], #[31]⟩) none,
        .run (.binOp .lss 3 (.tmp 2) (.tmp 0) 3) none,
        .run (.move (.tmp (far + 6))) (some ((.tmp 0), true)),
        .run (.move (.tmp (far + 11))) (some ((.tmp 1), true)),
        .run (.move (.tmp (far + 11))) (some ((.tmp 2), true)),
        .run (.binOp .add 3 (.tmp 0) (.const (.int .i64 1)) 3) (some ((.tmp 3), true)),
        .run (.slice 31 (.tmp 3) (some (.tmp 2)) (some (.tmp 0)) none) (some ((.tmp 4), true)),
        .run (.move (.tmp (far + 7))) (some ((.tmp 5), true)),
        .run (.move (.tmp (far + 10))) (some ((.tmp 6), true)),
        .run (.move (.tmp (far + 10))) (some ((.tmp 7), true)),
        .run (.binOp .add 3 (.tmp 0) (.const (.int .i64 1)) 3) (some ((.tmp 8), true)),
        .run (.slice 31 (.tmp 3) (some (.tmp 2)) (some (.tmp 0)) none) (some ((.tmp 9), true)),
        .run (.call ⟨.value (.func 14), #[(.tmp 5), (.tmp 0)], #[31, 31]⟩) (some ((.tmp 10), true)),
        .run (.pick (.tmp 11) (.tmp 0) (.const (.bool false))) none] [(88, 0)]) (
      .cond (.tmp 88) (
        .seq (
        .reg [.get 10,
          .run (.binOp .add 3 (.tmp 0) (.const (.int .i64 1)) 3) none] [(10, 0)]) (
        .exit 3)) (
        .skip))) (
      .seq (
      .reg [.get 6,
        .get 11,
        .run (.indexAddr 31 (.tmp 1) (.tmp 0)) none,
        .run (.fieldAddr 39 (.tmp 0) 0) none,
        .run (.load 5 (.tmp 0)) none,
        .run (.binOp .neq 5 (.tmp 0) (.const (.int .u8 8)) 5) none,
        .run (.move (.tmp (far + 6))) (some ((.tmp 0), true)),
        .run (.move (.tmp (far + 11))) (some ((.tmp 1), true)),
        .run (.indexAddr 31 (.tmp 1) (.tmp 0)) (some ((.tmp 2), true)),
        .run (.fieldAddr 39 (.tmp 0) 0) (some ((.tmp 3), true)),
        .run (.load 5 (.tmp 0)) (some ((.tmp 4), true)),
        .run (.binOp .neq 5 (.tmp 0) (.const (.int .u8 7)) 5) (some ((.tmp 5), true)),
        .run (.pick (.tmp 6) (.tmp 0) (.const (.bool false))) none] [(104, 0)]) (
      .cond (.tmp 104) (
        .seq (
        .reg [.run (.assign (.const (.bool false))) none] [(2, 0)]) (
        .ret)) (
        .skip))))) (
     .reg [.get 11,
       .run (.binOp .add 3 (.tmp 0) (.const (.int .i64 1)) 3) none] [(11, 0)])))))) (
   .seq (
   .seq (
   .reg [.get 10,
     .get 7,
     .run (.call ⟨.builtin .len, #[(.tmp 0)], #[31]⟩) none,
     .run (.binOp .neq 3 (.tmp 2) (.tmp 0) 3) none] [(108, 0)]) (
   .cond (.tmp 108) (
     .seq (
     .reg [.run (.assign (.const (.bool false))) none] [(2, 0)]) (
     .ret)) (
     .skip))) (
   .seq (
   .reg [.run (.assign (.const (.int .i64 0))) none] [(12, 0)]) (
   .block 4 (
    .loop (
     .seq (
     .seq (
     .reg [.get 12,
       .get 6,
       .run (.call ⟨.builtin .len, #[(.tmp 0)], #[31]⟩) none,
       .run (.binOp .lss 3 (.tmp 2) (.tmp 0) 3) none] [(112, 0)]) (
     .cond (.tmp 112) (
       .skip) (
       .exit 4))) (
     .seq (
     .block 5 (
      .seq (
      .reg [.get 6,
        .get 12,
        .run (.indexAddr 31 (.tmp 1) (.tmp 0)) none,
        .run (.fieldAddr 39 (.tmp 0) 4) none,
        .run (.load 2 (.tmp 0)) none] [(13, 0)]) (
      .seq (
      .reg [.get 6,
        .get 12,
        .run (.indexAddr 31 (.tmp 1) (.tmp 0)) none,
        .run (.fieldAddr 39 (.tmp 0) 0) none,
        .run (.load 5 (.tmp 0)) none,
        .run (.binOp .eql 5 (.tmp 0) (.const (.int .u8 7)) 5) none,
        .run (.move (.tmp (far + 6))) (some ((.tmp 0), true)),
        .run (.move (.tmp (far + 13))) (some ((.tmp 1), true)),
        .run (.call ⟨.value (.func 15), #[(.tmp 1), (.const (.int .u8 7)), (.tmp 0)], #[31, 5, 2]⟩) (some ((.tmp 2), true)),
        .run (.move (.tmp (far + 7))) (some ((.tmp 3), true)),
        .run (.move (.tmp (far + 13))) (some ((.tmp 4), true)),
        .run (.call ⟨.value (.func 15), #[(.tmp 1), (.const (.int .u8 7)), (.tmp 0)], #[31, 5, 2]⟩) (some ((.tmp 5), true)),
        .run (.binOp .sub 3 (.tmp 3) (.tmp 0) 3) (some ((.tmp 6), true)),
        .run (.move (.tmp (far + 6))) (some ((.tmp 7), true)),
        .run (.move (.tmp (far + 13))) (some ((.tmp 8), true)),
        .run (.call ⟨.value (.func 15), #[(.tmp 1), (.const (.int .u8 8)), (.tmp 0)], #[31, 5, 2]⟩) (some ((.tmp 9), true)),
        .run (.move (.tmp (far + 7))) (some ((.tmp 10), true)),
        .run (.move (.tmp (far + 13))) (some ((.tmp 11), true)),
        .run (.call ⟨.value (.func 15), #[(.tmp 1), (.const (.int .u8 8)), (.tmp 0)], #[31, 5, 2]⟩) (some ((.tmp 12), true)),
        .run (.binOp .sub 3 (.tmp 3) (.tmp 0) 3) (some ((.tmp 13), true)),
        .run (.binOp .neq 3 (.tmp 7) (.tmp 0) 3) (some ((.tmp 14), true)),
        .run (.pick (.tmp 15) (.tmp 0) (.const (.bool false))) none] [(142, 0)]) (
      .cond (.tmp 142) (
        .seq (
        .reg [.run (.assign (.const (.bool false))) none] [(2, 0)]) (
        .ret)) (
        .skip))))) (
     .reg [.get 12,
       .run (.binOp .add 3 (.tmp 0) (.const (.int .i64 1)) 3) none] [(12, 0)]))))))))))))) (
  .reg [.get 5,
    .run (.binOp .add 3 (.tmp 0) (.const (.int .i64 1)) 3) none] [(5, 0)])))))) (
.seq (
.reg [.run (.load 24 (.tmp (far + 3))) none,
  .run (.call ⟨.value (.func 12), #[(.tmp 0)], #[24]⟩) none,
  .run (.extract (.tmp 0) 0) none,
  .run (.extract (.tmp 1) 1) none,
  .run (.alloc 24) none,
  .run (.store 24 (.tmp 0) (.tmp 2)) none] [(4, 2), (14, 1)]) (
.seq (
.reg [.get 4,
  .run (.binOp .eql 27 (.tmp 0) (.const (.int .i64 0)) 27) none,
  .run (.load 24 (.tmp (far + 3))) (some ((.tmp 0), true)),
  .run (.load 24 (.tmp (far + 14))) (some ((.tmp 1), true)),
  .run (.call ⟨.value (.func 16), #[(.tmp 1), (.tmp 0)], #[24, 24]⟩) (some ((.tmp 2), true)),
  .run (.pick (.tmp 3) (.tmp 0) (.const (.bool false))) none] [(2, 0)]) (
.ret))))))))
theorem fn_law26_MergeLess : V.F 3 = some Tryd.f3 := by kernel_rfl
theorem is_law26_MergeLess : (V.F 3).isSome = true := by rw [fn_law26_MergeLess]; rfl
noncomputable def c_law26_MergeLess : Code := match Tryd.f3.body with
  | some c => c
  | none => .skip
theorem b_law26_MergeLess : Tryd.f3.body = some c_law26_MergeLess := rfl
theorem pc_law26_MergeLess : pcOf V Tryd.f3.ntmps (some (liveOf Tryd.f3 c_law26_MergeLess)) c_law26_MergeLess = some P_law26_MergeLess := by kernel_rfl
theorem Lc.law26_MergeLess {O : Orc} {vs : List Value} {H : AH} {R : Value → AH → Prop} (ho : O 3 vs H = none) (hlen : vs.length ≤ Tryd.f3.ntmps) (hlive : (List.range vs.length).all (isLive (some (liveOf Tryd.f3 c_law26_MergeLess))) = true)
    (h : WP V O (some (liveOf Tryd.f3 c_law26_MergeLess)) Tryd.f3.ntmps P_law26_MergeLess (initL vs 0) H fun e l H' => (e = .normal ∨ e = .ret) ∧ ∃ rs, resL V l H' Tryd.f3.results.toList = some rs ∧ R (resOf rs) H') : ∃ v H', Lc V O 3 vs H v H' ∧ R v H' :=
  Lc.fnP ho fn_law26_MergeLess b_law26_MergeLess pc_law26_MergeLess hlen hlive h
/- bobbin/bobbinlaw26.MergeBlocks -/
abbrev F_law26_MergeBlocks : FuncId := 4
def P_law26_MergeBlocks : PC :=
.seq (
.reg [.run (.box 24 (.tmp (far + 0))) none,
  .run (.assign (.const (.bool false))) none] [(2, 0), (1, 1)]) (
.seq (
.seq (
.reg [.run (.load 24 (.tmp (far + 1))) none,
  .run (.call ⟨.value (.func 10), #[(.tmp 0)], #[24]⟩) none,
  .run (.call ⟨.value (.func 11), #[], #[]⟩) (some ((.tmp 0), false)),
  .run (.unOp .not 4 (.tmp 0)) (some ((.tmp 1), false)),
  .run (.pick (.tmp 2) (.const (.bool true)) (.tmp 0)) none] [(19, 0)]) (
.cond (.tmp 19) (
  .seq (
  .reg [.run (.call ⟨.value (.func 11), #[], #[]⟩) none] [(2, 0)]) (
  .ret)) (
  .skip))) (
.seq (
.reg [.run (.load 24 (.tmp (far + 1))) none,
  .run (.call ⟨.value (.func 12), #[(.tmp 0)], #[24]⟩) none,
  .run (.extract (.tmp 0) 0) none,
  .run (.extract (.tmp 1) 1) none,
  .run (.alloc 24) none,
  .run (.store 24 (.tmp 0) (.tmp 2)) none] [(4, 2), (3, 1)]) (
.seq (
.seq (
.reg [.get 4,
  .run (.binOp .neq 27 (.tmp 0) (.const (.int .i64 0)) 27) none] [(27, 0)]) (
.cond (.tmp 27) (
  .seq (
  .reg [.run (.fieldAddr 24 (.tmp (far + 3)) 4) none,
    .run (.load 22 (.tmp 0)) none,
    .run (.call ⟨.builtin .len, #[(.tmp 0)], #[22]⟩) none,
    .run (.binOp .eql 3 (.tmp 0) (.const (.int .i64 0)) 3) none] [(2, 0)]) (
  .ret)) (
  .skip))) (
.seq (
.seq (
.reg [.run (.fieldAddr 24 (.tmp (far + 3)) 4) none,
  .run (.load 22 (.tmp 0)) none,
  .run (.call ⟨.builtin .len, #[(.tmp 0)], #[22]⟩) none,
  .run (.fieldAddr 24 (.tmp (far + 1)) 4) none,
  .run (.load 22 (.tmp 0)) none,
  .run (.call ⟨.builtin .len, #[(.tmp 0)], #[22]⟩) none,
  .run (.binOp .neq 3 (.tmp 3) (.tmp 0) 3) none,
  .run (.fieldAddr 24 (.tmp (far + 3)) 3) (some ((.tmp 0), false)),
  .run (.load 3 (.tmp 0)) (some ((.tmp 1), false)),
  .run (.fieldAddr 24 (.tmp (far + 1)) 3) (some ((.tmp 2), false)),
  .run (.load 3 (.tmp 0)) (some ((.tmp 3), false)),
  .run (.binOp .neq 3 (.tmp 2) (.tmp 0) 3) (some ((.tmp 4), false)),
  .run (.pick (.tmp 5) (.const (.bool true)) (.tmp 0)) none,
  .run (.fieldAddr 24 (.tmp (far + 3)) 2) (some ((.tmp 0), false)),
  .run (.load 3 (.tmp 0)) (some ((.tmp 1), false)),
  .run (.fieldAddr 24 (.tmp (far + 1)) 2) (some ((.tmp 2), false)),
  .run (.load 3 (.tmp 0)) (some ((.tmp 3), false)),
  .run (.binOp .neq 3 (.tmp 2) (.tmp 0) 3) (some ((.tmp 4), false)),
  .run (.pick (.tmp 5) (.const (.bool true)) (.tmp 0)) none,
  .run (.fieldAddr 24 (.tmp (far + 3)) 0) (some ((.tmp 0), false)),
  .run (.load 9 (.tmp 0)) (some ((.tmp 1), false)),
  .run (.fieldAddr 24 (.tmp (far + 1)) 0) (some ((.tmp 2), false)),
  .run (.load 9 (.tmp 0)) (some ((.tmp 3), false)),
  .run (.binOp .neq 9 (.tmp 2) (.tmp 0) 9) (some ((.tmp 4), false)),
  .run (.pick (.tmp 5) (.const (.bool true)) (.tmp 0)) none,
  .run (.load 24 (.tmp (far + 1))) (some ((.tmp 0), false)),
  .run (.load 24 (.tmp (far + 1))) (some ((.tmp 1), false)),
  .run (.call ⟨.value (.func 17), #[(.tmp 1), (.tmp 0)], #[24, 24]⟩) (some ((.tmp 2), false)),
  .run (.binOp .neq 3 (.tmp 0) (.const (.int .i64 0)) 3) (some ((.tmp 3), false)),
  .run (.pick (.tmp 4) (.const (.bool true)) (.tmp 0)) none] [(65, 0)]) (
.cond (.tmp 65) (
  .seq (
  .reg [.run (.assign (.const (.bool false))) none] [(2, 0)]) (
  .ret)) (
  .skip))) (
.seq (
.reg [.run (.assign (.const (.int .i64 0))) none,
  .run (.assign (.const (.int .i64 0))) none] [(6, 0), (5, 1)]) (
.seq (
.seq (
.reg [.run (.assign (.const (.int .i64 0))) none] [(7, 0)]) (
.block 0 (
 .loop (
  .seq (
  .seq (
  .reg [.get 7,
    .run (.fieldAddr 24 (.tmp (far + 1)) 4) none,
    .run (.load 22 (.tmp 0)) none,
    .run (.call ⟨.builtin .len, #[(.tmp 0)], #[22]⟩) none,
    .run (.binOp .lss 3 (.tmp 3) (.tmp 0) 3) none] [(70, 0)]) (
  .cond (.tmp 70) (
    .skip) (
    .exit 0))) (
  .seq (
  .block 1 (
   .seq (
   .reg [.run (.fieldAddr 24 (.tmp (far + 1)) 4) none,
     .run (.load 22 (.tmp 0)) none,
     .get 7,
     .run (.indexAddr 22 (.tmp 1) (.tmp 0)) none,
     .run (.fieldAddr 34 (.tmp 0) 1) none,
     .run (.load 31 (.tmp 0)) none,
     .run (.fieldAddr 24 (.tmp (far + 3)) 4) none,
     .run (.load 22 (.tmp 0)) none,
     .get 7,
     .run (.indexAddr 22 (.tmp 1) (.tmp 0)) none,
     .run (.fieldAddr 34 (.tmp 0) 1) none,
     .run (.load 31 (.tmp 0)) none] [(9, 0), (8, 6)]) (
   .seq (
   .seq (
   .reg [.run (.fieldAddr 24 (.tmp (far + 1)) 4) none,
     .run (.load 22 (.tmp 0)) none,
     .get 7,
     .run (.indexAddr 22 (.tmp 1) (.tmp 0)) none,
     .run (.fieldAddr 34 (.tmp 0) 0) none,
     .run (.load 30 (.tmp 0)) none,
     .run (.call ⟨.builtin .len, #[(.tmp 0)], #[30]⟩) none,
     .run (.fieldAddr 24 (.tmp (far + 3)) 4) none,
     .run (.load 22 (.tmp 0)) none,
     .get 7,
     .run (.indexAddr 22 (.tmp 1) (.tmp 0)) none,
     .run (.fieldAddr 34 (.tmp 0) 0) none,
     .run (.load 30 (.tmp 0)) none,
     .run (.call ⟨.builtin .len, #[(.tmp 0)], #[30]⟩) none,
     .run (.binOp .neq 3 (.tmp 7) (.tmp 0) 3) none,
     .run (.fieldAddr 24 (.tmp (far + 1)) 4) (some ((.tmp 0), false)),
     .run (.load 22 (.tmp 0)) (some ((.tmp 1), false)),
     .run (.move (.tmp (far + 7))) (some ((.tmp 2), false)),
     .run (.indexAddr 22 (.tmp 1) (.tmp 0)) (some ((.tmp 3), false)),
     .run (.fieldAddr 34 (.tmp 0) 2) (some ((.tmp 4), false)),
     .run (.load 32 (.tmp 0)) (some ((.tmp 5), false)),
     .run (.fieldAddr 24 (.tmp (far + 3)) 4) (some ((.tmp 6), false)),
     .run (.load 22 (.tmp 0)) (some ((.tmp 7), false)),
     .run (.move (.tmp (far + 7))) (some ((.tmp 8), false)),
     .run (.indexAddr 22 (.tmp 1) (.tmp 0)) (some ((.tmp 9), false)),
     .run (.fieldAddr 34 (.tmp 0) 2) (some ((.tmp 10), false)),
     .run (.load 32 (.tmp 0)) (some ((.tmp 11), false)),
     .run (.call ⟨.value (.func 18), #[(.tmp 6), (.tmp 0)], #[32, 32]⟩) (some ((.tmp 12), false)),
     .run (.unOp .not 4 (.tmp 0)) (some ((.tmp 13), false)),
     .run (.pick (.tmp 14) (.const (.bool true)) (.tmp 0)) none,
     .run (.fieldAddr 24 (.tmp (far + 1)) 4) (some ((.tmp 0), false)),
     .run (.load 22 (.tmp 0)) (some ((.tmp 1), false)),
     .run (.move (.tmp (far + 7))) (some ((.tmp 2), false)),
     .run (.indexAddr 22 (.tmp 1) (.tmp 0)) (some ((.tmp 3), false)),
     .run (.fieldAddr 34 (.tmp 0) 3) (some ((.tmp 4), false)),
     .run (.load 32 (.tmp 0)) (some ((.tmp 5), false)),
     .run (.fieldAddr 24 (.tmp (far + 3)) 4) (some ((.tmp 6), false)),
     .run (.load 22 (.tmp 0)) (some ((.tmp 7), false)),
     .run (.move (.tmp (far + 7))) (some ((.tmp 8), false)),
     .run (.indexAddr 22 (.tmp 1) (.tmp 0)) (some ((.tmp 9), false)),
     .run (.fieldAddr 34 (.tmp 0) 3) (some ((.tmp 10), false)),
     .run (.load 32 (.tmp 0)) (some ((.tmp 11), false)),
     .run (.call ⟨.value (.func 18), #[(.tmp 6), (.tmp 0)], #[32, 32]⟩) (some ((.tmp 12), false)),
     .run (.unOp .not 4 (.tmp 0)) (some ((.tmp 13), false)),
     .run (.pick (.tmp 14) (.const (.bool true)) (.tmp 0)) none] [(131, 0)]) (
   .cond (.tmp 131) (
     .seq (
     .reg [.run (.assign (.const (.bool false))) none] [(2, 0)]) (
     .ret)) (
     .skip))) (
   .seq (
   .reg [.run (.alloc 44) none] [(10, 0)]) (
   .seq (
   .seq (
   .reg [.run (.assign (.const (.int .i64 0))) none] [(11, 0)]) (
   .block 2 (
    .loop (
     .seq (
     .seq (
     .reg [.get 11,
       .get 8,
       .run (.call ⟨.builtin .len, #[(.tmp 0)], #[31]⟩) none,
       .run (.binOp .lss 3 (.tmp 2) (.tmp 0) 3) none] [(135, 0)]) (
     .cond (.tmp 135) (
       .skip) (
       .exit 2))) (
     .seq (
     .block 3 (
      .reg [.get 8,
        .get 11,
        .run (.indexAddr 31 (.tmp 1) (.tmp 0)) none,
        .run (.fieldAddr 39 (.tmp 0) 0) none,
        .run (.load 5 (.tmp 0)) none,
        .run (.indexAddr 44 (.tmp (far + 10)) (.tmp 0)) none,
        .run (.load 3 (.tmp 0)) none,
        .run (.binOp .add 3 (.tmp 0) (.const (.int .i64 1)) 3) none,
        .run (.indexAddr 44 (.tmp (far + 10)) (.tmp 3)) none,
        .run (.store 3 (.tmp 0) (.tmp 1)) none] [])) (
     .reg [.get 11,
       .run (.binOp .add 3 (.tmp 0) (.const (.int .i64 1)) 3) none] [(11, 0)])))))) (
   .seq (
   .seq (
   .reg [.run (.assign (.const (.int .i64 0))) none] [(12, 0)]) (
   .block 4 (
    .loop (
     .seq (
     .seq (
     .reg [.get 12,
       .get 9,
       .run (.call ⟨.builtin .len, #[(.tmp 0)], #[31]⟩) none,
       .run (.binOp .lss 3 (.tmp 2) (.tmp 0) 3) none] [(150, 0)]) (
     .cond (.tmp 150) (
       .skip) (
       .exit 4))) (
     .seq (
     .block 5 (
      .reg [.get 9,
        .get 12,
        .run (.indexAddr 31 (.tmp 1) (.tmp 0)) none,
        .run (.fieldAddr 39 (.tmp 0) 0) none,
        .run (.load 5 (.tmp 0)) none,
        .run (.indexAddr 44 (.tmp (far + 10)) (.tmp 0)) none,
        .run (.load 3 (.tmp 0)) none,
        .run (.binOp .sub 3 (.tmp 0) (.const (.int .i64 1)) 3) none,
        .run (.indexAddr 44 (.tmp (far + 10)) (.tmp 3)) none,
        .run (.store 3 (.tmp 0) (.tmp 1)) none] [])) (
     .reg [.get 12,
       .run (.binOp .add 3 (.tmp 0) (.const (.int .i64 1)) 3) none] [(12, 0)])))))) (
   .seq (
   .seq (
   .reg [.run (.assign (.const (.int .i64 0))) none] [(13, 0)]) (
   .block 6 (
    .loop (
     .seq (
     .seq (
     .reg [.get 13,
       .run (.binOp .lss 3 (.tmp 0) (.const (.int .i64 256)) 3) none] [(163, 0)]) (
     .cond (.tmp 163) (
       .skip) (
       .exit 6))) (
     .seq (
     .block 7 (
      .seq (
      .reg [.get 13,
        .run (.indexAddr 44 (.tmp (far + 10)) (.tmp 0)) none,
        .run (.load 3 (.tmp 0)) none,
        .run (.binOp .neq 3 (.tmp 0) (.const (.int .i64 0)) 3) none,
        .run (.move (.tmp (far + 13))) (some ((.tmp 0), true)),
        .run (.convert 3 5 (.tmp 0)) (some ((.tmp 1), true)),
        .run (.binOp .neq 5 (.tmp 0) (.const (.int .u8 7)) 5) (some ((.tmp 2), true)),
        .run (.pick (.tmp 3) (.tmp 0) (.const (.bool false))) none,
        .run (.move (.tmp (far + 13))) (some ((.tmp 0), true)),
        .run (.convert 3 5 (.tmp 0)) (some ((.tmp 1), true)),
        .run (.binOp .neq 5 (.tmp 0) (.const (.int .u8 8)) 5) (some ((.tmp 2), true)),
        .run (.pick (.tmp 3) (.tmp 0) (.const (.bool false))) none,
        .run (.move (.tmp (far + 13))) (some ((.tmp 0), false)),
        .run (.indexAddr 44 (.tmp (far + 10)) (.tmp 0)) (some ((.tmp 1), false)),
        .run (.load 3 (.tmp 0)) (some ((.tmp 2), false)),
        .run (.binOp .lss 3 (.tmp 0) (.const (.int .i64 0)) 3) (some ((.tmp 3), false)),
        .run (.pick (.tmp 4) (.const (.bool true)) (.tmp 0)) none] [(185, 0)]) (
      .cond (.tmp 185) (
        .seq (
        .reg [.run (.assign (.const (.bool false))) none] [(2, 0)]) (
        .ret)) (
        .skip)))) (
     .reg [.get 13,
       .run (.binOp .add 3 (.tmp 0) (.const (.int .i64 1)) 3) none] [(13, 0)])))))) (
   .seq (
   .reg [.get 5,
     .run (.indexAddr 44 (.tmp (far + 10)) (.const (.int .u8 7))) none,
     .run (.load 3 (.tmp 0)) none,
     .run (.binOp .add 3 (.tmp 2) (.tmp 0) 3) none] [(5, 0)]) (
   .reg [.get 6,
     .run (.indexAddr 44 (.tmp (far + 10)) (.const (.int .u8 8))) none,
     .run (.load 3 (.tmp 0)) none,
     .run (.binOp .add 3 (.tmp 2) (.tmp 0) 3) none] [(6, 0)]))))))))) (
  .reg [.get 7,
    .run (.binOp .add 3 (.tmp 0) (.const (.int .i64 1)) 3) none] [(7, 0)])))))) (
.seq (
.reg [.get 5,
  .get 6,
  .run (.binOp .eql 3 (.tmp 1) (.tmp 0) 3) none,
  .run (.load 24 (.tmp (far + 1))) (some ((.tmp 0), true)),
  .run (.load 24 (.tmp (far + 3))) (some ((.tmp 1), true)),
  .run (.call ⟨.value (.func 17), #[(.tmp 1), (.tmp 0)], #[24, 24]⟩) (some ((.tmp 2), true)),
  .run (.move (.tmp (far + 5))) (some ((.tmp 3), true)),
  .run (.binOp .eql 3 (.tmp 1) (.tmp 0) 3) (some ((.tmp 4), true)),
  .run (.pick (.tmp 5) (.tmp 0) (.const (.bool false))) none] [(2, 0)]) (
.ret))))))))
theorem fn_law26_MergeBlocks : V.F 4 = some Tryd.f4 := by kernel_rfl
theorem is_law26_MergeBlocks : (V.F 4).isSome = true := by rw [fn_law26_MergeBlocks]; rfl
noncomputable def c_law26_MergeBlocks : Code := match Tryd.f4.body with
  | some c => c
  | none => .skip
theorem b_law26_MergeBlocks : Tryd.f4.body = some c_law26_MergeBlocks := rfl
theorem pc_law26_MergeBlocks : pcOf V Tryd.f4.ntmps (some (liveOf Tryd.f4 c_law26_MergeBlocks)) c_law26_MergeBlocks = some P_law26_MergeBlocks := by kernel_rfl
theorem Lc.law26_MergeBlocks {O : Orc} {vs : List Value} {H : AH} {R : Value → AH → Prop} (ho : O 4 vs H = none) (hlen : vs.length ≤ Tryd.f4.ntmps) (hlive : (List.range vs.length).all (isLive (some (liveOf Tryd.f4 c_law26_MergeBlocks))) = true)
    (h : WP V O (some (liveOf Tryd.f4 c_law26_MergeBlocks)) Tryd.f4.ntmps P_law26_MergeBlocks (initL vs 0) H fun e l H' => (e = .normal ∨ e = .ret) ∧ ∃ rs, resL V l H' Tryd.f4.results.toList = some rs ∧ R (resOf rs) H') : ∃ v H', Lc V O 4 vs H v H' ∧ R v H' :=
  Lc.fnP ho fn_law26_MergeBlocks b_law26_MergeBlocks pc_law26_MergeBlocks hlen hlive h
/- bobbin/bobbinlaw26.long -/
abbrev F_law26_long : FuncId := 10
def P_law26_long : PC :=
.seq (
.reg [.run (.box 24 (.tmp (far + 0))) none,
  .run (.assign (.const (.bool false))) none] [(2, 0), (1, 1)]) (
.seq (
.seq (
.reg [.run (.fieldAddr 24 (.tmp (far + 1)) 4) none,
  .run (.load 22 (.tmp 0)) none,
  .run (.call ⟨.builtin .len, #[(.tmp 0)], #[22]⟩) none,
  .run (.binOp .gtr 3 (.tmp 0) (.const (.int .i64 60)) 3) none,
  .run (.fieldAddr 24 (.tmp (far + 1)) 3) (some ((.tmp 0), false)),
  .run (.load 3 (.tmp 0)) (some ((.tmp 1), false)),
  .run (.binOp .gtr 3 (.tmp 0) (.const (.int .i64 300)) 3) (some ((.tmp 2), false)),
  .run (.pick (.tmp 3) (.const (.bool true)) (.tmp 0)) none] [(16, 0)]) (
.cond (.tmp 16) (
  .seq (
  .reg [.run (.assign (.const (.bool true))) none] [(2, 0)]) (
  .ret)) (
  .skip))) (
.seq (
.reg [.run (.assign (.const (.int .i64 0))) none] [(3, 0)]) (
.seq (
.seq (
.reg [.run (.assign (.const (.int .i64 0))) none] [(4, 0)]) (
.block 0 (
 .loop (
  .seq (
  .seq (
  .reg [.get 4,
    .run (.fieldAddr 24 (.tmp (far + 1)) 4) none,
    .run (.load 22 (.tmp 0)) none,
    .run (.call ⟨.builtin .len, #[(.tmp 0)], #[22]⟩) none,
    .run (.binOp .lss 3 (.tmp 3) (.tmp 0) 3) none] [(21, 0)]) (
  .cond (.tmp 21) (
    .skip) (
    .exit 0))) (
  .seq (
  .block 1 (
   .seq (
   .reg [.run (.fieldAddr 24 (.tmp (far + 1)) 4) none,
     .run (.load 22 (.tmp 0)) none,
     .get 4,
     .run (.indexAddr 22 (.tmp 1) (.tmp 0)) none,
     .run (.load 34 (.tmp 0)) none,
     .run (.alloc 34) none,
     .run (.store 34 (.tmp 0) (.tmp 1)) none] [(5, 1)]) (
   .seq (
   .seq (
   .reg [.run (.fieldAddr 34 (.tmp (far + 5)) 1) none,
     .run (.load 31 (.tmp 0)) none,
     .run (.call ⟨.builtin .len, #[(.tmp 0)], #[31]⟩) none,
     .run (.binOp .gtr 3 (.tmp 0) (.const (.int .i64 200)) 3) none,
     .run (.fieldAddr 34 (.tmp (far + 5)) 0) (some ((.tmp 0), false)),
     .run (.load 30 (.tmp 0)) (some ((.tmp 1), false)),
     .run (.call ⟨.builtin .len, #[(.tmp 0)], #[30]⟩) (some ((.tmp 2), false)),
     .run (.binOp .gtr 3 (.tmp 0) (.const (.int .i64 100)) 3) (some ((.tmp 3), false)),
     .run (.pick (.tmp 4) (.const (.bool true)) (.tmp 0)) none,
     .run (.fieldAddr 34 (.tmp (far + 5)) 2) (some ((.tmp 0), false)),
     .run (.load 32 (.tmp 0)) (some ((.tmp 1), false)),
     .run (.call ⟨.builtin .len, #[(.tmp 0)], #[32]⟩) (some ((.tmp 2), false)),
     .run (.binOp .gtr 3 (.tmp 0) (.const (.int .i64 100)) 3) (some ((.tmp 3), false)),
     .run (.pick (.tmp 4) (.const (.bool true)) (.tmp 0)) none,
     .run (.fieldAddr 34 (.tmp (far + 5)) 3) (some ((.tmp 0), false)),
     .run (.load 32 (.tmp 0)) (some ((.tmp 1), false)),
     .run (.call ⟨.builtin .len, #[(.tmp 0)], #[32]⟩) (some ((.tmp 2), false)),
     .run (.binOp .gtr 3 (.tmp 0) (.const (.int .i64 100)) 3) (some ((.tmp 3), false)),
     .run (.pick (.tmp 4) (.const (.bool true)) (.tmp 0)) none] [(50, 0)]) (
   .cond (.tmp 50) (
     .seq (
     .reg [.run (.assign (.const (.bool true))) none] [(2, 0)]) (
     .ret)) (
     .skip))) (
   .seq (
   .reg [.get 3,
     .run (.fieldAddr 34 (.tmp (far + 5)) 1) none,
     .run (.load 31 (.tmp 0)) none,
     .run (.call ⟨.builtin .len, #[(.tmp 0)], #[31]⟩) none,
     .run (.binOp .add 3 (.tmp 3) (.tmp 0) 3) none,
     .run (.fieldAddr 34 (.tmp (far + 5)) 0) none,
     .run (.load 30 (.tmp 0)) none,
     .run (.call ⟨.builtin .len, #[(.tmp 0)], #[30]⟩) none,
     .run (.binOp .add 3 (.tmp 3) (.tmp 0) 3) none] [(3, 0)]) (
   .seq (
   .seq (
   .reg [.run (.assign (.const (.int .i64 0))) none] [(6, 0)]) (
   .block 2 (
    .loop (
     .seq (
     .seq (
     .reg [.get 6,
       .run (.fieldAddr 34 (.tmp (far + 5)) 1) none,
       .run (.load 31 (.tmp 0)) none,
       .run (.call ⟨.builtin .len, #[(.tmp 0)], #[31]⟩) none,
       .run (.binOp .lss 3 (.tmp 3) (.tmp 0) 3) none] [(64, 0)]) (
     .cond (.tmp 64) (
       .skip) (
       .exit 2))) (
     .seq (
     .block 3 (
      .seq (
      .reg [.run (.fieldAddr 34 (.tmp (far + 5)) 1) none,
        .run (.load 31 (.tmp 0)) none,
        .get 6,
        .run (.indexAddr 31 (.tmp 1) (.tmp 0)) none,
        .run (.fieldAddr 39 (.tmp 0) 5) none,
        .run (.load 32 (.tmp 0)) none,
        .run (.call ⟨.builtin .len, #[(.tmp 0)], #[32]⟩) none,
        .run (.binOp .gtr 3 (.tmp 0) (.const (.int .i64 100)) 3) none] [(74, 0)]) (
      .cond (.tmp 74) (
        .seq (
        .reg [.run (.assign (.const (.bool true))) none] [(2, 0)]) (
        .ret)) (
        .skip)))) (
     .reg [.get 6,
       .run (.binOp .add 3 (.tmp 0) (.const (.int .i64 1)) 3) none] [(6, 0)])))))) (
   .seq (
   .reg [.run (.assign (.const (.int .i64 0))) none] [(7, 0)]) (
   .block 4 (
    .loop (
     .seq (
     .seq (
     .reg [.get 7,
       .run (.fieldAddr 34 (.tmp (far + 5)) 0) none,
       .run (.load 30 (.tmp 0)) none,
       .run (.call ⟨.builtin .len, #[(.tmp 0)], #[30]⟩) none,
       .run (.binOp .lss 3 (.tmp 3) (.tmp 0) 3) none] [(79, 0)]) (
     .cond (.tmp 79) (
       .skip) (
       .exit 4))) (
     .seq (
     .block 5 (
      .seq (
      .reg [.run (.fieldAddr 34 (.tmp (far + 5)) 0) none,
        .run (.load 30 (.tmp 0)) none,
        .get 7,
        .run (.indexAddr 30 (.tmp 1) (.tmp 0)) none,
        .run (.fieldAddr 50 (.tmp 0) 1) none,
        .run (.load 32 (.tmp 0)) none,
        .run (.call ⟨.builtin .len, #[(.tmp 0)], #[32]⟩) none,
        .run (.binOp .gtr 3 (.tmp 0) (.const (.int .i64 100)) 3) none] [(89, 0)]) (
      .cond (.tmp 89) (
        .seq (
        .reg [.run (.assign (.const (.bool true))) none] [(2, 0)]) (
        .ret)) (
        .skip)))) (
     .reg [.get 7,
       .run (.binOp .add 3 (.tmp 0) (.const (.int .i64 1)) 3) none] [(7, 0)]))))))))))) (
  .reg [.get 4,
    .run (.binOp .add 3 (.tmp 0) (.const (.int .i64 1)) 3) none] [(4, 0)])))))) (
.seq (
.reg [.get 3,
  .run (.binOp .gtr 3 (.tmp 0) (.const (.int .i64 400)) 3) none] [(2, 0)]) (
.ret)))))
theorem fn_law26_long : V.F 10 = some Tryd.f10 := by kernel_rfl
theorem is_law26_long : (V.F 10).isSome = true := by rw [fn_law26_long]; rfl
noncomputable def c_law26_long : Code := match Tryd.f10.body with
  | some c => c
  | none => .skip
theorem b_law26_long : Tryd.f10.body = some c_law26_long := rfl
theorem pc_law26_long : pcOf V Tryd.f10.ntmps (some (liveOf Tryd.f10 c_law26_long)) c_law26_long = some P_law26_long := by kernel_rfl
theorem Lc.law26_long {O : Orc} {vs : List Value} {H : AH} {R : Value → AH → Prop} (ho : O 10 vs H = none) (hlen : vs.length ≤ Tryd.f10.ntmps) (hlive : (List.range vs.length).all (isLive (some (liveOf Tryd.f10 c_law26_long))) = true)
    (h : WP V O (some (liveOf Tryd.f10 c_law26_long)) Tryd.f10.ntmps P_law26_long (initL vs 0) H fun e l H' => (e = .normal ∨ e = .ret) ∧ ∃ rs, resL V l H' Tryd.f10.results.toList = some rs ∧ R (resOf rs) H') : ∃ v H', Lc V O 10 vs H v H' ∧ R v H' :=
  Lc.fnP ho fn_law26_long b_law26_long pc_law26_long hlen hlive h
/- bobbin/bobbinlaw26.awake -/
abbrev F_law26_awake : FuncId := 11
def P_law26_awake : PC :=
.seq (
.reg [.run (.assign (.const (.bool false))) none] [(0, 0)]) (
.seq (
.reg [.run (.build 39 #[(0, (.const (.int .u8 7)))]) none,
  .run (.build 39 #[(0, (.const (.int .u8 6))), (2, (.const (.int .i64 (-1))))]) none,
  .run (.build 39 #[(0, (.const (.int .u8 8)))]) none,
  .run (.build 39 #[(0, (.const (.int .u8 7)))]) none,
  .run (.build 39 #[(0, (.const (.int .u8 6))), (2, (.const (.int .i64 (-1)))), (4, (.const (.int .i64 1)))]) none,
  .run (.build 39 #[(0, (.const (.int .u8 8)))]) none,
  .run (.buildSlice 31 6 #[(0, (.tmp 5)), (1, (.tmp 4)), (2, (.tmp 3)), (3, (.tmp 2)), (4, (.tmp 1)), (5, (.tmp 0))]) none,
  .run (.call ⟨.value (.func 36), #[(.const (.int .i64 1)), (.tmp 0)], #[3, 31]⟩) none,
  .run (.alloc 24) none,
  .run (.store 24 (.tmp 0) (.tmp 1)) none] [(1, 1)]) (
.seq (
.reg [.run (.load 24 (.tmp (far + 1))) none,
  .run (.call ⟨.value (.func 12), #[(.tmp 0)], #[24]⟩) none,
  .run (.extract (.tmp 0) 0) none,
  .run (.extract (.tmp 1) 1) none,
  .run (.alloc 24) none,
  .run (.store 24 (.tmp 0) (.tmp 2)) none] [(3, 2), (2, 1)]) (
.seq (
.reg [.get 3,
  .run (.binOp .eql 27 (.tmp 0) (.const (.int .i64 0)) 27) none,
  .run (.fieldAddr 24 (.tmp (far + 2)) 4) (some ((.tmp 0), true)),
  .run (.load 22 (.tmp 0)) (some ((.tmp 1), true)),
  .run (.call ⟨.builtin .len, #[(.tmp 0)], #[22]⟩) (some ((.tmp 2), true)),
  .run (.binOp .eql 3 (.tmp 0) (.const (.int .i64 1)) 3) (some ((.tmp 3), true)),
  .run (.pick (.tmp 4) (.tmp 0) (.const (.bool false))) none,
  .run (.fieldAddr 24 (.tmp (far + 2)) 4) (some ((.tmp 0), true)),
  .run (.load 22 (.tmp 0)) (some ((.tmp 1), true)),
  .run (.indexAddr 22 (.tmp 0) (.const (.int .i64 0))) (some ((.tmp 2), true)),
  .run (.fieldAddr 34 (.tmp 0) 1) (some ((.tmp 3), true)),
  .run (.load 31 (.tmp 0)) (some ((.tmp 4), true)),
  .run (.call ⟨.builtin .len, #[(.tmp 0)], #[31]⟩) (some ((.tmp 5), true)),
  .run (.binOp .eql 3 (.tmp 0) (.const (.int .i64 5)) 3) (some ((.tmp 6), true)),
  .run (.pick (.tmp 7) (.tmp 0) (.const (.bool false))) none,
  .run (.fieldAddr 24 (.tmp (far + 2)) 4) (some ((.tmp 0), true)),
  .run (.load 22 (.tmp 0)) (some ((.tmp 1), true)),
  .run (.indexAddr 22 (.tmp 0) (.const (.int .i64 0))) (some ((.tmp 2), true)),
  .run (.fieldAddr 34 (.tmp 0) 1) (some ((.tmp 3), true)),
  .run (.load 31 (.tmp 0)) (some ((.tmp 4), true)),
  .run (.indexAddr 31 (.tmp 0) (.const (.int .i64 2))) (some ((.tmp 5), true)),
  .run (.fieldAddr 39 (.tmp 0) 0) (some ((.tmp 6), true)),
  .run (.load 5 (.tmp 0)) (some ((.tmp 7), true)),
  .run (.binOp .eql 5 (.tmp 0) (.const (.int .u8 6)) 5) (some ((.tmp 8), true)),
  .run (.pick (.tmp 9) (.tmp 0) (.const (.bool false))) none,
  .run (.load 24 (.tmp (far + 1))) (some ((.tmp 0), true)),
  .run (.load 24 (.tmp (far + 2))) (some ((.tmp 1), true)),
  .run (.call ⟨.value (.func 17), #[(.tmp 1), (.tmp 0)], #[24, 24]⟩) (some ((.tmp 2), true)),
  .run (.binOp .eql 3 (.tmp 0) (.const (.int .i64 1)) 3) (some ((.tmp 3), true)),
  .run (.pick (.tmp 4) (.tmp 0) (.const (.bool false))) none] [(0, 0)]) (
.ret))))
theorem fn_law26_awake : V.F 11 = some Tryd.f11 := by kernel_rfl
theorem is_law26_awake : (V.F 11).isSome = true := by rw [fn_law26_awake]; rfl
noncomputable def c_law26_awake : Code := match Tryd.f11.body with
  | some c => c
  | none => .skip
theorem b_law26_awake : Tryd.f11.body = some c_law26_awake := rfl
theorem pc_law26_awake : pcOf V Tryd.f11.ntmps (some (liveOf Tryd.f11 c_law26_awake)) c_law26_awake = some P_law26_awake := by kernel_rfl
theorem Lc.law26_awake {O : Orc} {vs : List Value} {H : AH} {R : Value → AH → Prop} (ho : O 11 vs H = none) (hlen : vs.length ≤ Tryd.f11.ntmps) (hlive : (List.range vs.length).all (isLive (some (liveOf Tryd.f11 c_law26_awake))) = true)
    (h : WP V O (some (liveOf Tryd.f11 c_law26_awake)) Tryd.f11.ntmps P_law26_awake (initL vs 0) H fun e l H' => (e = .normal ∨ e = .ret) ∧ ∃ rs, resL V l H' Tryd.f11.results.toList = some rs ∧ R (resOf rs) H') : ∃ v H', Lc V O 11 vs H v H' ∧ R v H' :=
  Lc.fnP ho fn_law26_awake b_law26_awake pc_law26_awake hlen hlive h
/- bobbin/merge.Of -/
abbrev F_merge_Of : FuncId := 12
def P_merge_Of : PC :=
.seq (
.reg [.run (.box 24 (.tmp (far + 0))) none,
  .run (.alloc 24) none,
  .run (.assign (.const (.int .i64 0))) none] [(3, 0), (2, 1), (1, 2)]) (
.seq (
.seq (
.reg [.run (.load 24 (.tmp (far + 1))) none,
  .run (.call ⟨.value (.func 30), #[(.tmp 0)], #[24]⟩) none,
  .run (.unOp .not 4 (.tmp 0)) none] [(9, 0)]) (
.cond (.tmp 9) (
  .seq (
  .reg [.run (.build 24 #[]) none,
    .run (.store 24 (.tmp (far + 2)) (.tmp 0)) none,
    .run (.assign (.const (.int .i64 4))) none] [(3, 0)]) (
  .ret)) (
  .skip))) (
.seq (
.reg [.run (.load 24 (.tmp (far + 1))) none,
  .run (.alloc 24) none,
  .run (.store 24 (.tmp 0) (.tmp 1)) none] [(4, 1)]) (
.seq (
.reg [.run (.fieldAddr 24 (.tmp (far + 4)) 4) none,
  .run (.store 22 (.tmp 0) (.const (.slice none 0 0))) none] []) (
.seq (
.seq (
.reg [.run (.fieldAddr 24 (.tmp (far + 1)) 4) none,
  .run (.load 22 (.tmp 0)) none,
  .run (.call ⟨.builtin .len, #[(.tmp 0)], #[22]⟩) none,
  .run (.move (.const (.int .i64 0))) none] [(16, 0), (15, 1), (14, 2)]) (
.block 0 (
 .loop (
  .seq (
  .reg [.run (.binOp .lss 3 (.tmp (far + 16)) (.tmp (far + 15)) 3) none] [(17, 0)]) (
  .seq (
  .cond (.tmp 17) (
    .skip) (
    .exit 0)) (
  .seq (
  .block 1 (
   .seq (
   .reg [.run (.indexAddr 22 (.tmp (far + 14)) (.tmp (far + 16))) none,
     .run (.load 34 (.tmp 0)) none,
     .run (.alloc 34) none,
     .run (.store 34 (.tmp 0) (.tmp 1)) none] [(6, 1)]) (
   .rega [.run (.fieldAddr 24 (.tmp (far + 4)) 4) none,
     .run (.load 22 (.tmp 0)) none,
     .run (.load 34 (.tmp (far + 6))) none,
     .run (.call ⟨.value (.func 37), #[(.tmp 0)], #[34]⟩) none,
     .run (.buildSlice 22 1 #[(0, (.tmp 0))]) none,
     .run (.call ⟨.builtin .append, #[(.tmp 3), (.tmp 0)], #[22, 22]⟩) none,
     .run (.fieldAddr 24 (.tmp (far + 4)) 4) none,
     .run (.store 22 (.tmp 0) (.tmp 1)) none] [] 8 [⟨.load 22 (.tmp 7), none, 1, 5⟩]))) (
  .reg [.run (.binOp .add 3 (.tmp (far + 16)) (.const (.int .i64 1)) 3) none] [(16, 0)]))))))) (
.seq (
.seq (
.reg [.run (.load 24 (.tmp (far + 4))) none,
  .run (.call ⟨.value (.func 30), #[(.tmp 0)], #[24]⟩) none,
  .run (.unOp .not 4 (.tmp 0)) none] [(30, 0)]) (
.cond (.tmp 30) (
  .seq (
  .reg [.run (.build 24 #[]) none,
    .run (.store 24 (.tmp (far + 2)) (.tmp 0)) none,
    .run (.assign (.const (.int .i64 4))) none] [(3, 0)]) (
  .ret)) (
  .skip))) (
.seq (
.reg [.run (.load 24 (.tmp (far + 4))) none,
  .run (.store 24 (.tmp (far + 2)) (.tmp 0)) none,
  .run (.assign (.const (.int .i64 0))) none] [(3, 0)]) (
.ret)))))))
theorem fn_merge_Of : V.F 12 = some Tryd.f12 := by kernel_rfl
theorem is_merge_Of : (V.F 12).isSome = true := by rw [fn_merge_Of]; rfl
noncomputable def c_merge_Of : Code := match Tryd.f12.body with
  | some c => c
  | none => .skip
theorem b_merge_Of : Tryd.f12.body = some c_merge_Of := rfl
theorem pc_merge_Of : pcOf V Tryd.f12.ntmps (some (liveOf Tryd.f12 c_merge_Of)) c_merge_Of = some P_merge_Of := by kernel_rfl
theorem Lc.merge_Of {O : Orc} {vs : List Value} {H : AH} {R : Value → AH → Prop} (ho : O 12 vs H = none) (hlen : vs.length ≤ Tryd.f12.ntmps) (hlive : (List.range vs.length).all (isLive (some (liveOf Tryd.f12 c_merge_Of))) = true)
    (h : WP V O (some (liveOf Tryd.f12 c_merge_Of)) Tryd.f12.ntmps P_merge_Of (initL vs 0) H fun e l H' => (e = .normal ∨ e = .ret) ∧ ∃ rs, resL V l H' Tryd.f12.results.toList = some rs ∧ R (resOf rs) H') : ∃ v H', Lc V O 12 vs H v H' ∧ R v H' :=
  Lc.fnP ho fn_merge_Of b_merge_Of pc_merge_Of hlen hlive h
/- bobbin/bobbinref26.Pair -/
abbrev F_ref26_Pair : FuncId := 13
def P_ref26_Pair : PC :=
.seq (
.reg [.run (.assign (.const (.int .i64 0))) none,
  .run (.assign (.const (.int .i64 0))) none] [(3, 0), (2, 1)]) (
.seq (
.seq (
.reg [.run (.assign (.const (.int .i64 0))) none] [(4, 0)]) (
.block 0 (
 .loop (
  .seq (
  .seq (
  .reg [.get 4,
    .get 0,
    .run (.call ⟨.builtin .len, #[(.tmp 0)], #[31]⟩) none,
    .run (.binOp .lss 3 (.tmp 2) (.tmp 0) 3) none] [(9, 0)]) (
  .cond (.tmp 9) (
    .skip) (
    .exit 0))) (
  .seq (
  .block 1 (
   .seq (
   .seq (
   .reg [.get 0,
     .get 4,
     .run (.indexAddr 31 (.tmp 1) (.tmp 0)) none,
     .run (.fieldAddr 39 (.tmp 0) 0) none,
     .run (.load 5 (.tmp 0)) none,
     .run (.binOp .neq 5 (.tmp 0) (.const (.int .u8 8)) 5) none] [(17, 0)]) (
   .cond (.tmp 17) (
     .exit 1) (
     .skip))) (
   .seq (
   .reg [.get 4,
     .run (.binOp .add 3 (.tmp 0) (.const (.int .i64 1)) 3) none] [(5, 0)]) (
   .seq (
   .block 2 (
    .loop (
     .seq (
     .seq (
     .reg [.get 5,
       .get 0,
       .run (.call ⟨.builtin .len, #[(.tmp 0)], #[31]⟩) none,
       .run (.binOp .lss 3 (.tmp 2) (.tmp 0) 3) none,
       .run (.move (.tmp (far + 0))) (some ((.tmp 0), true)),
       .run (.move (.tmp (far + 5))) (some ((.tmp 1), true)),
       .run (.indexAddr 31 (.tmp 1) (.tmp 0)) (some ((.tmp 2), true)),
       .run (.load 39 (.tmp 0)) (some ((.tmp 3), true)),
       .run (.call ⟨.value (.func 38), #[(.tmp 0)], #[39]⟩) (some ((.tmp 4), true)),
       .run (.pick (.tmp 5) (.tmp 0) (.const (.bool false))) none] [(30, 0)]) (
     .cond (.tmp 30) (
       .skip) (
       .exit 2))) (
     .block 3 (
      .reg [.get 5,
        .run (.binOp .add 3 (.tmp 0) (.const (.int .i64 1)) 3) none] [(5, 0)]))))) (
   .seq (
   .reg [.get 5,
     .get 0,
     .run (.call ⟨.builtin .len, #[(.tmp 0)], #[31]⟩) none,
     .run (.binOp .lss 3 (.tmp 2) (.tmp 0) 3) none,
     .run (.move (.tmp (far + 0))) (some ((.tmp 0), true)),
     .run (.move (.tmp (far + 5))) (some ((.tmp 1), true)),
     .run (.indexAddr 31 (.tmp 1) (.tmp 0)) (some ((.tmp 2), true)),
     .run (.fieldAddr 39 (.tmp 0) 0) (some ((.tmp 3), true)),
     .run (.load 5 (.tmp 0)) (some ((.tmp 4), true)),
     .run (.binOp .eql 5 (.tmp 0) (.const (.int .u8 7)) 5) (some ((.tmp 5), true)),
     .run (.pick (.tmp 6) (.tmp 0) (.const (.bool false))) none,
     .run (.move (.tmp (far + 0))) (some ((.tmp 0), true)),
     .run (.move (.tmp (far + 5))) (some ((.tmp 1), true)),
     .run (.indexAddr 31 (.tmp 1) (.tmp 0)) (some ((.tmp 2), true)),
     .run (.fieldAddr 39 (.tmp 0) 4) (some ((.tmp 3), true)),
     .run (.load 2 (.tmp 0)) (some ((.tmp 4), true)),
     .run (.move (.tmp (far + 0))) (some ((.tmp 5), true)),
     .run (.move (.tmp (far + 4))) (some ((.tmp 6), true)),
     .run (.indexAddr 31 (.tmp 1) (.tmp 0)) (some ((.tmp 7), true)),
     .run (.fieldAddr 39 (.tmp 0) 4) (some ((.tmp 8), true)),
     .run (.load 2 (.tmp 0)) (some ((.tmp 9), true)),
     .run (.binOp .eql 2 (.tmp 5) (.tmp 0) 2) (some ((.tmp 10), true)),
     .run (.pick (.tmp 11) (.tmp 0) (.const (.bool false))) none] [(57, 0)]) (
   .cond (.tmp 57) (
     .seq (
     .reg [.get 4,
       .get 5] [(3, 0), (2, 1)]) (
     .ret)) (
     .skip))))))) (
  .reg [.get 4,
    .run (.binOp .add 3 (.tmp 0) (.const (.int .i64 1)) 3) none] [(4, 0)])))))) (
.seq (
.reg [.run (.assign (.const (.int .i64 (-1)))) none,
  .run (.assign (.const (.int .i64 (-1)))) none] [(3, 0), (2, 1)]) (
.ret)))
theorem fn_ref26_Pair : V.F 13 = some Tryd.f13 := by kernel_rfl
theorem is_ref26_Pair : (V.F 13).isSome = true := by rw [fn_ref26_Pair]; rfl
noncomputable def c_ref26_Pair : Code := match Tryd.f13.body with
  | some c => c
  | none => .skip
theorem b_ref26_Pair : Tryd.f13.body = some c_ref26_Pair := rfl
theorem pc_ref26_Pair : pcOf V Tryd.f13.ntmps (some (liveOf Tryd.f13 c_ref26_Pair)) c_ref26_Pair = some P_ref26_Pair := by kernel_rfl
theorem Lc.ref26_Pair {O : Orc} {vs : List Value} {H : AH} {R : Value → AH → Prop} (ho : O 13 vs H = none) (hlen : vs.length ≤ Tryd.f13.ntmps) (hlive : (List.range vs.length).all (isLive (some (liveOf Tryd.f13 c_ref26_Pair))) = true)
    (h : WP V O (some (liveOf Tryd.f13 c_ref26_Pair)) Tryd.f13.ntmps P_ref26_Pair (initL vs 0) H fun e l H' => (e = .normal ∨ e = .ret) ∧ ∃ rs, resL V l H' Tryd.f13.results.toList = some rs ∧ R (resOf rs) H') : ∃ v H', Lc V O 13 vs H v H' ∧ R v H' :=
  Lc.fnP ho fn_ref26_Pair b_ref26_Pair pc_ref26_Pair hlen hlive h
/- bobbin/bobbinref06.SameIns -/
abbrev F_ref06_SameIns : FuncId := 14
def P_ref06_SameIns : PC :=
.seq (
.reg [.run (.assign (.const (.bool false))) none] [(4, 0)]) (
.seq (
.seq (
.reg [.get 0,
  .run (.call ⟨.builtin .len, #[(.tmp 0)], #[31]⟩) none,
  .get 1,
  .run (.call ⟨.builtin .len, #[(.tmp 0)], #[31]⟩) none,
  .run (.binOp .neq 3 (.tmp 2) (.tmp 0) 3) none] [(11, 0)]) (
.cond (.tmp 11) (
  .seq (
  .reg [.run (.assign (.const (.bool false))) none] [(4, 0)]) (
  .ret)) (
  .skip))) (
.seq (
.seq (
.reg [.run (.assign (.const (.int .i64 0))) none] [(5, 0)]) (
.block 0 (
 .loop (
  .seq (
  .seq (
  .reg [.get 5,
    .get 0,
    .run (.call ⟨.builtin .len, #[(.tmp 0)], #[31]⟩) none,
    .run (.binOp .lss 3 (.tmp 2) (.tmp 0) 3) none] [(15, 0)]) (
  .cond (.tmp 15) (
    .skip) (
    .exit 0))) (
  .seq (
  .block 1 (
   .seq (
   .seq (
   .reg [.get 0,
     .get 5,
     .run (.indexAddr 31 (.tmp 1) (.tmp 0)) none,
     .run (.fieldAddr 39 (.tmp 0) 0) none,
     .run (.load 5 (.tmp 0)) none,
     .get 1,
     .get 5,
     .run (.indexAddr 31 (.tmp 1) (.tmp 0)) none,
     .run (.fieldAddr 39 (.tmp 0) 0) none,
     .run (.load 5 (.tmp 0)) none,
     .run (.binOp .neq 5 (.tmp 5) (.tmp 0) 5) none,
     .run (.move (.tmp (far + 0))) (some ((.tmp 0), false)),
     .run (.move (.tmp (far + 5))) (some ((.tmp 1), false)),
     .run (.indexAddr 31 (.tmp 1) (.tmp 0)) (some ((.tmp 2), false)),
     .run (.fieldAddr 39 (.tmp 0) 1) (some ((.tmp 3), false)),
     .run (.load 3 (.tmp 0)) (some ((.tmp 4), false)),
     .run (.move (.tmp (far + 1))) (some ((.tmp 5), false)),
     .run (.move (.tmp (far + 5))) (some ((.tmp 6), false)),
     .run (.indexAddr 31 (.tmp 1) (.tmp 0)) (some ((.tmp 7), false)),
     .run (.fieldAddr 39 (.tmp 0) 1) (some ((.tmp 8), false)),
     .run (.load 3 (.tmp 0)) (some ((.tmp 9), false)),
     .run (.binOp .neq 3 (.tmp 5) (.tmp 0) 3) (some ((.tmp 10), false)),
     .run (.pick (.tmp 11) (.const (.bool true)) (.tmp 0)) none,
     .run (.move (.tmp (far + 0))) (some ((.tmp 0), false)),
     .run (.move (.tmp (far + 5))) (some ((.tmp 1), false)),
     .run (.indexAddr 31 (.tmp 1) (.tmp 0)) (some ((.tmp 2), false)),
     .run (.fieldAddr 39 (.tmp 0) 2) (some ((.tmp 3), false)),
     .run (.load 3 (.tmp 0)) (some ((.tmp 4), false)),
     .run (.move (.tmp (far + 1))) (some ((.tmp 5), false)),
     .run (.move (.tmp (far + 5))) (some ((.tmp 6), false)),
     .run (.indexAddr 31 (.tmp 1) (.tmp 0)) (some ((.tmp 7), false)),
     .run (.fieldAddr 39 (.tmp 0) 2) (some ((.tmp 8), false)),
     .run (.load 3 (.tmp 0)) (some ((.tmp 9), false)),
     .run (.binOp .neq 3 (.tmp 5) (.tmp 0) 3) (some ((.tmp 10), false)),
     .run (.pick (.tmp 11) (.const (.bool true)) (.tmp 0)) none,
     .run (.move (.tmp (far + 0))) (some ((.tmp 0), false)),
     .run (.move (.tmp (far + 5))) (some ((.tmp 1), false)),
     .run (.indexAddr 31 (.tmp 1) (.tmp 0)) (some ((.tmp 2), false)),
     .run (.fieldAddr 39 (.tmp 0) 3) (some ((.tmp 3), false)),
     .run (.load 3 (.tmp 0)) (some ((.tmp 4), false)),
     .run (.move (.tmp (far + 1))) (some ((.tmp 5), false)),
     .run (.move (.tmp (far + 5))) (some ((.tmp 6), false)),
     .run (.indexAddr 31 (.tmp 1) (.tmp 0)) (some ((.tmp 7), false)),
     .run (.fieldAddr 39 (.tmp 0) 3) (some ((.tmp 8), false)),
     .run (.load 3 (.tmp 0)) (some ((.tmp 9), false)),
     .run (.binOp .neq 3 (.tmp 5) (.tmp 0) 3) (some ((.tmp 10), false)),
     .run (.pick (.tmp 11) (.const (.bool true)) (.tmp 0)) none,
     .run (.move (.tmp (far + 0))) (some ((.tmp 0), false)),
     .run (.move (.tmp (far + 5))) (some ((.tmp 1), false)),
     .run (.indexAddr 31 (.tmp 1) (.tmp 0)) (some ((.tmp 2), false)),
     .run (.fieldAddr 39 (.tmp 0) 4) (some ((.tmp 3), false)),
     .run (.load 2 (.tmp 0)) (some ((.tmp 4), false)),
     .run (.move (.tmp (far + 1))) (some ((.tmp 5), false)),
     .run (.move (.tmp (far + 5))) (some ((.tmp 6), false)),
     .run (.indexAddr 31 (.tmp 1) (.tmp 0)) (some ((.tmp 7), false)),
     .run (.fieldAddr 39 (.tmp 0) 4) (some ((.tmp 8), false)),
     .run (.load 2 (.tmp 0)) (some ((.tmp 9), false)),
     .run (.binOp .neq 2 (.tmp 5) (.tmp 0) 2) (some ((.tmp 10), false)),
     .run (.pick (.tmp 11) (.const (.bool true)) (.tmp 0)) none,
     .run (.move (.tmp (far + 0))) (some ((.tmp 0), false)),
     .run (.move (.tmp (far + 5))) (some ((.tmp 1), false)),
     .run (.indexAddr 31 (.tmp 1) (.tmp 0)) (some ((.tmp 2), false)),
     .run (.fieldAddr 39 (.tmp 0) 5) (some ((.tmp 3), false)),
     .run (.load 32 (.tmp 0)) (some ((.tmp 4), false)),
     .run (.call ⟨.builtin .len, #[(.tmp 0)], #[32]⟩) (some ((.tmp 5), false)),
     .run (.move (.tmp (far + 1))) (some ((.tmp 6), false)),
     .run (.move (.tmp (far + 5))) (some ((.tmp 7), false)),
     .run (.indexAddr 31 (.tmp 1) (.tmp 0)) (some ((.tmp 8), false)),
     .run (.fieldAddr 39 (.tmp 0) 5) (some ((.tmp 9), false)),
     .run (.load 32 (.tmp 0)) (some ((.tmp 10), false)),
     .run (.call ⟨.builtin .len, #[(.tmp 0)], #[32]⟩) (some ((.tmp 11), false)),
     .run (.binOp .neq 3 (.tmp 6) (.tmp 0) 3) (some ((.tmp 12), false)),
     .run (.pick (.tmp 13) (.const (.bool true)) (.tmp 0)) none] [(95, 0)]) (
   .cond (.tmp 95) (
     .seq (
     .reg [.run (.assign (.const (.bool false))) none] [(4, 0)]) (
     .ret)) (
     .skip))) (
   .seq (
   .reg [.run (.assign (.const (.int .i64 0))) none] [(6, 0)]) (
   .block 2 (
    .loop (
     .seq (
     .seq (
     .reg [.get 6,
       .get 0,
       .get 5,
       .run (.indexAddr 31 (.tmp 1) (.tmp 0)) none,
       .run (.fieldAddr 39 (.tmp 0) 5) none,
       .run (.load 32 (.tmp 0)) none,
       .run (.call ⟨.builtin .len, #[(.tmp 0)], #[32]⟩) none,
       .run (.binOp .lss 3 (.tmp 6) (.tmp 0) 3) none] [(103, 0)]) (
     .cond (.tmp 103) (
       .skip) (
       .exit 2))) (
     .seq (
     .block 3 (
      .seq (
      .reg [.get 0,
        .get 5,
        .run (.indexAddr 31 (.tmp 1) (.tmp 0)) none,
        .run (.fieldAddr 39 (.tmp 0) 5) none,
        .run (.load 32 (.tmp 0)) none,
        .get 6,
        .run (.indexAddr 32 (.tmp 1) (.tmp 0)) none,
        .run (.load 3 (.tmp 0)) none,
        .get 1,
        .get 5,
        .run (.indexAddr 31 (.tmp 1) (.tmp 0)) none,
        .run (.fieldAddr 39 (.tmp 0) 5) none,
        .run (.load 32 (.tmp 0)) none,
        .get 6,
        .run (.indexAddr 32 (.tmp 1) (.tmp 0)) none,
        .run (.load 3 (.tmp 0)) none,
        .run (.binOp .neq 3 (.tmp 8) (.tmp 0) 3) none] [(122, 0)]) (
      .cond (.tmp 122) (
        .seq (
        .reg [.run (.assign (.const (.bool false))) none] [(4, 0)]) (
        .ret)) (
        .skip)))) (
     .reg [.get 6,
       .run (.binOp .add 3 (.tmp 0) (.const (.int .i64 1)) 3) none] [(6, 0)])))))))) (
  .reg [.get 5,
    .run (.binOp .add 3 (.tmp 0) (.const (.int .i64 1)) 3) none] [(5, 0)])))))) (
.seq (
.reg [.run (.assign (.const (.bool true))) none] [(4, 0)]) (
.ret))))
theorem fn_ref06_SameIns : V.F 14 = some Tryd.f14 := by kernel_rfl
theorem is_ref06_SameIns : (V.F 14).isSome = true := by rw [fn_ref06_SameIns]; rfl
noncomputable def c_ref06_SameIns : Code := match Tryd.f14.body with
  | some c => c
  | none => .skip
theorem b_ref06_SameIns : Tryd.f14.body = some c_ref06_SameIns := rfl
theorem pc_ref06_SameIns : pcOf V Tryd.f14.ntmps (some (liveOf Tryd.f14 c_ref06_SameIns)) c_ref06_SameIns = some P_ref06_SameIns := by kernel_rfl
theorem Lc.ref06_SameIns {O : Orc} {vs : List Value} {H : AH} {R : Value → AH → Prop} (ho : O 14 vs H = none) (hlen : vs.length ≤ Tryd.f14.ntmps) (hlive : (List.range vs.length).all (isLive (some (liveOf Tryd.f14 c_ref06_SameIns))) = true)
    (h : WP V O (some (liveOf Tryd.f14 c_ref06_SameIns)) Tryd.f14.ntmps P_ref06_SameIns (initL vs 0) H fun e l H' => (e = .normal ∨ e = .ret) ∧ ∃ rs, resL V l H' Tryd.f14.results.toList = some rs ∧ R (resOf rs) H') : ∃ v H', Lc V O 14 vs H v H' ∧ R v H' :=
  Lc.fnP ho fn_ref06_SameIns b_ref06_SameIns pc_ref06_SameIns hlen hlive h
/- bobbin/bobbinlaw26.locks -/
abbrev F_law26_locks : FuncId := 15
def P_law26_locks : PC :=
.seq (
.reg [.run (.assign (.const (.int .i64 0))) none] [(6, 0)]) (
.seq (
.reg [.run (.assign (.const (.int .i64 0))) none] [(7, 0)]) (
.seq (
.seq (
.reg [.run (.assign (.const (.int .i64 0))) none] [(8, 0)]) (
.block 0 (
 .loop (
  .seq (
  .seq (
  .reg [.get 8,
    .get 0,
    .run (.call ⟨.builtin .len, #[(.tmp 0)], #[31]⟩) none,
    .run (.binOp .lss 3 (.tmp 2) (.tmp 0) 3) none] [(12, 0)]) (
  .cond (.tmp 12) (
    .skip) (
    .exit 0))) (
  .seq (
  .block 1 (
   .seq (
   .reg [.get 0,
     .get 8,
     .run (.indexAddr 31 (.tmp 1) (.tmp 0)) none,
     .run (.fieldAddr 39 (.tmp 0) 0) none,
     .run (.load 5 (.tmp 0)) none,
     .get 1,
     .run (.binOp .eql 5 (.tmp 1) (.tmp 0) 5) none,
     .run (.move (.tmp (far + 0))) (some ((.tmp 0), true)),
     .run (.move (.tmp (far + 8))) (some ((.tmp 1), true)),
     .run (.indexAddr 31 (.tmp 1) (.tmp 0)) (some ((.tmp 2), true)),
     .run (.fieldAddr 39 (.tmp 0) 4) (some ((.tmp 3), true)),
     .run (.load 2 (.tmp 0)) (some ((.tmp 4), true)),
     .run (.move (.tmp (far + 2))) (some ((.tmp 5), true)),
     .run (.binOp .eql 2 (.tmp 1) (.tmp 0) 2) (some ((.tmp 6), true)),
     .run (.pick (.tmp 7) (.tmp 0) (.const (.bool false))) none] [(30, 0)]) (
   .cond (.tmp 30) (
     .reg [.get 7,
       .run (.binOp .add 3 (.tmp 0) (.const (.int .i64 1)) 3) none] [(7, 0)]) (
     .skip)))) (
  .reg [.get 8,
    .run (.binOp .add 3 (.tmp 0) (.const (.int .i64 1)) 3) none] [(8, 0)])))))) (
.seq (
.reg [.get 7] [(6, 0)]) (
.ret))))
theorem fn_law26_locks : V.F 15 = some Tryd.f15 := by kernel_rfl
theorem is_law26_locks : (V.F 15).isSome = true := by rw [fn_law26_locks]; rfl
noncomputable def c_law26_locks : Code := match Tryd.f15.body with
  | some c => c
  | none => .skip
theorem b_law26_locks : Tryd.f15.body = some c_law26_locks := rfl
theorem pc_law26_locks : pcOf V Tryd.f15.ntmps (some (liveOf Tryd.f15 c_law26_locks)) c_law26_locks = some P_law26_locks := by kernel_rfl
theorem Lc.law26_locks {O : Orc} {vs : List Value} {H : AH} {R : Value → AH → Prop} (ho : O 15 vs H = none) (hlen : vs.length ≤ Tryd.f15.ntmps) (hlive : (List.range vs.length).all (isLive (some (liveOf Tryd.f15 c_law26_locks))) = true)
    (h : WP V O (some (liveOf Tryd.f15 c_law26_locks)) Tryd.f15.ntmps P_law26_locks (initL vs 0) H fun e l H' => (e = .normal ∨ e = .ret) ∧ ∃ rs, resL V l H' Tryd.f15.results.toList = some rs ∧ R (resOf rs) H') : ∃ v H', Lc V O 15 vs H v H' ∧ R v H' :=
  Lc.fnP ho fn_law26_locks b_law26_locks pc_law26_locks hlen hlive h
/- bobbin/bobbinlaw26.same -/
abbrev F_law26_same : FuncId := 16
def P_law26_same : PC :=
.seq (
.reg [.run (.box 24 (.tmp (far + 0))) none,
  .run (.box 24 (.tmp (far + 1))) none,
  .run (.assign (.const (.bool false))) none] [(4, 0), (3, 1), (2, 2)]) (
.seq (
.seq (
.reg [.run (.fieldAddr 24 (.tmp (far + 2)) 0) none,
  .run (.load 9 (.tmp 0)) none,
  .run (.fieldAddr 24 (.tmp (far + 3)) 0) none,
  .run (.load 9 (.tmp 0)) none,
  .run (.binOp .neq 9 (.tmp 2) (.tmp 0) 9) none,
  .run (.fieldAddr 24 (.tmp (far + 2)) 1) (some ((.tmp 0), false)),
  .run (.load 4 (.tmp 0)) (some ((.tmp 1), false)),
  .run (.fieldAddr 24 (.tmp (far + 3)) 1) (some ((.tmp 2), false)),
  .run (.load 4 (.tmp 0)) (some ((.tmp 3), false)),
  .run (.binOp .neq 4 (.tmp 2) (.tmp 0) 4) (some ((.tmp 4), false)),
  .run (.pick (.tmp 5) (.const (.bool true)) (.tmp 0)) none,
  .run (.fieldAddr 24 (.tmp (far + 2)) 2) (some ((.tmp 0), false)),
  .run (.load 3 (.tmp 0)) (some ((.tmp 1), false)),
  .run (.fieldAddr 24 (.tmp (far + 3)) 2) (some ((.tmp 2), false)),
  .run (.load 3 (.tmp 0)) (some ((.tmp 3), false)),
  .run (.binOp .neq 3 (.tmp 2) (.tmp 0) 3) (some ((.tmp 4), false)),
  .run (.pick (.tmp 5) (.const (.bool true)) (.tmp 0)) none,
  .run (.fieldAddr 24 (.tmp (far + 2)) 3) (some ((.tmp 0), false)),
  .run (.load 3 (.tmp 0)) (some ((.tmp 1), false)),
  .run (.fieldAddr 24 (.tmp (far + 3)) 3) (some ((.tmp 2), false)),
  .run (.load 3 (.tmp 0)) (some ((.tmp 3), false)),
  .run (.binOp .neq 3 (.tmp 2) (.tmp 0) 3) (some ((.tmp 4), false)),
  .run (.pick (.tmp 5) (.const (.bool true)) (.tmp 0)) none,
  .run (.fieldAddr 24 (.tmp (far + 2)) 4) (some ((.tmp 0), false)),
  .run (.load 22 (.tmp 0)) (some ((.tmp 1), false)),
  .run (.call ⟨.builtin .len, #[(.tmp 0)], #[22]⟩) (some ((.tmp 2), false)),
  .run (.fieldAddr 24 (.tmp (far + 3)) 4) (some ((.tmp 3), false)),
  .run (.load 22 (.tmp 0)) (some ((.tmp 4), false)),
  .run (.call ⟨.builtin .len, #[(.tmp 0)], #[22]⟩) (some ((.tmp 5), false)),
  .run (.binOp .neq 3 (.tmp 3) (.tmp 0) 3) (some ((.tmp 6), false)),
  .run (.pick (.tmp 7) (.const (.bool true)) (.tmp 0)) none] [(43, 0)]) (
.cond (.tmp 43) (
  .seq (
  .reg [.run (.assign (.const (.bool false))) none] [(4, 0)]) (
  .ret)) (
  .skip))) (
.seq (
.seq (
.reg [.run (.assign (.const (.int .i64 0))) none] [(5, 0)]) (
.block 0 (
 .loop (
  .seq (
  .seq (
  .reg [.get 5,
    .run (.fieldAddr 24 (.tmp (far + 2)) 4) none,
    .run (.load 22 (.tmp 0)) none,
    .run (.call ⟨.builtin .len, #[(.tmp 0)], #[22]⟩) none,
    .run (.binOp .lss 3 (.tmp 3) (.tmp 0) 3) none] [(48, 0)]) (
  .cond (.tmp 48) (
    .skip) (
    .exit 0))) (
  .seq (
  .block 1 (
   .seq (
   .rega [.run (.fieldAddr 24 (.tmp (far + 2)) 4) none,
     .run (.load 22 (.tmp 0)) none,
     .get 5,
     .run (.indexAddr 22 (.tmp 1) (.tmp 0)) none,
     .run (.load 34 (.tmp 0)) none,
     .run (.fieldAddr 24 (.tmp (far + 3)) 4) none,
     .run (.load 22 (.tmp 0)) none,
     .get 5,
     .run (.indexAddr 22 (.tmp 1) (.tmp 0)) none,
     .run (.load 34 (.tmp 0)) none,
     .run (.alloc 34) none,
     .run (.alloc 34) none,
     .run (.store 34 (.tmp 1) (.tmp 7)) none,
     .run (.store 34 (.tmp 1) (.tmp 3)) none] [(7, 2), (6, 3)] 14 [⟨.load 22 (.tmp 8), none, 6, 13⟩, ⟨.load 34 (.tmp 5), none, 9, 13⟩]) (
   .seq (
   .seq (
   .reg [.run (.fieldAddr 34 (.tmp (far + 6)) 2) none,
     .run (.load 32 (.tmp 0)) none,
     .run (.fieldAddr 34 (.tmp (far + 7)) 2) none,
     .run (.load 32 (.tmp 0)) none,
     .run (.call ⟨.value (.func 18), #[(.tmp 2), (.tmp 0)], #[32, 32]⟩) none,
     .run (.unOp .not 4 (.tmp 0)) none,
     .run (.fieldAddr 34 (.tmp (far + 6)) 3) (some ((.tmp 0), false)),
     .run (.load 32 (.tmp 0)) (some ((.tmp 1), false)),
     .run (.fieldAddr 34 (.tmp (far + 7)) 3) (some ((.tmp 2), false)),
     .run (.load 32 (.tmp 0)) (some ((.tmp 3), false)),
     .run (.call ⟨.value (.func 18), #[(.tmp 2), (.tmp 0)], #[32, 32]⟩) (some ((.tmp 4), false)),
     .run (.unOp .not 4 (.tmp 0)) (some ((.tmp 5), false)),
     .run (.pick (.tmp 6) (.const (.bool true)) (.tmp 0)) none,
     .run (.fieldAddr 34 (.tmp (far + 6)) 1) (some ((.tmp 0), false)),
     .run (.load 31 (.tmp 0)) (some ((.tmp 1), false)),
     .run (.fieldAddr 34 (.tmp (far + 7)) 1) (some ((.tmp 2), false)),
     .run (.load 31 (.tmp 0)) (some ((.tmp 3), false)),
     .run (.call ⟨.value (.func 14), #[(.tmp 2), (.tmp 0)], #[31, 31]⟩) (some ((.tmp 4), false)),
     .run (.unOp .not 4 (.tmp 0)) (some ((.tmp 5), false)),
     .run (.pick (.tmp 6) (.const (.bool true)) (.tmp 0)) none,
     .run (.fieldAddr 34 (.tmp (far + 6)) 0) (some ((.tmp 0), false)),
     .run (.load 30 (.tmp 0)) (some ((.tmp 1), false)),
     .run (.call ⟨.builtin .len, #[(.tmp 0)], #[30]⟩) (some ((.tmp 2), false)),
     .run (.fieldAddr 34 (.tmp (far + 7)) 0) (some ((.tmp 3), false)),
     .run (.load 30 (.tmp 0)) (some ((.tmp 4), false)),
     .run (.call ⟨.builtin .len, #[(.tmp 0)], #[30]⟩) (some ((.tmp 5), false)),
     .run (.binOp .neq 3 (.tmp 3) (.tmp 0) 3) (some ((.tmp 6), false)),
     .run (.pick (.tmp 7) (.const (.bool true)) (.tmp 0)) none] [(91, 0)]) (
   .cond (.tmp 91) (
     .seq (
     .reg [.run (.assign (.const (.bool false))) none] [(4, 0)]) (
     .ret)) (
     .skip))) (
   .seq (
   .reg [.run (.assign (.const (.int .i64 0))) none] [(8, 0)]) (
   .block 2 (
    .loop (
     .seq (
     .seq (
     .reg [.get 8,
       .run (.fieldAddr 34 (.tmp (far + 6)) 0) none,
       .run (.load 30 (.tmp 0)) none,
       .run (.call ⟨.builtin .len, #[(.tmp 0)], #[30]⟩) none,
       .run (.binOp .lss 3 (.tmp 3) (.tmp 0) 3) none] [(96, 0)]) (
     .cond (.tmp 96) (
       .skip) (
       .exit 2))) (
     .seq (
     .block 3 (
      .seq (
      .reg [.run (.fieldAddr 34 (.tmp (far + 6)) 0) none,
        .run (.load 30 (.tmp 0)) none,
        .get 8,
        .run (.indexAddr 30 (.tmp 1) (.tmp 0)) none,
        .run (.fieldAddr 50 (.tmp 0) 0) none,
        .run (.load 3 (.tmp 0)) none,
        .run (.fieldAddr 34 (.tmp (far + 7)) 0) none,
        .run (.load 30 (.tmp 0)) none,
        .get 8,
        .run (.indexAddr 30 (.tmp 1) (.tmp 0)) none,
        .run (.fieldAddr 50 (.tmp 0) 0) none,
        .run (.load 3 (.tmp 0)) none,
        .run (.binOp .neq 3 (.tmp 6) (.tmp 0) 3) none,
        .run (.fieldAddr 34 (.tmp (far + 6)) 0) (some ((.tmp 0), false)),
        .run (.load 30 (.tmp 0)) (some ((.tmp 1), false)),
        .run (.move (.tmp (far + 8))) (some ((.tmp 2), false)),
        .run (.indexAddr 30 (.tmp 1) (.tmp 0)) (some ((.tmp 3), false)),
        .run (.fieldAddr 50 (.tmp 0) 1) (some ((.tmp 4), false)),
        .run (.load 32 (.tmp 0)) (some ((.tmp 5), false)),
        .run (.fieldAddr 34 (.tmp (far + 7)) 0) (some ((.tmp 6), false)),
        .run (.load 30 (.tmp 0)) (some ((.tmp 7), false)),
        .run (.move (.tmp (far + 8))) (some ((.tmp 8), false)),
        .run (.indexAddr 30 (.tmp 1) (.tmp 0)) (some ((.tmp 9), false)),
        .run (.fieldAddr 50 (.tmp 0) 1) (some ((.tmp 10), false)),
        .run (.load 32 (.tmp 0)) (some ((.tmp 11), false)),
        .run (.call ⟨.value (.func 18), #[(.tmp 6), (.tmp 0)], #[32, 32]⟩) (some ((.tmp 12), false)),
        .run (.unOp .not 4 (.tmp 0)) (some ((.tmp 13), false)),
        .run (.pick (.tmp 14) (.const (.bool true)) (.tmp 0)) none] [(127, 0)]) (
      .cond (.tmp 127) (
        .seq (
        .reg [.run (.assign (.const (.bool false))) none] [(4, 0)]) (
        .ret)) (
        .skip)))) (
     .reg [.get 8,
       .run (.binOp .add 3 (.tmp 0) (.const (.int .i64 1)) 3) none] [(8, 0)]))))))))) (
  .reg [.get 5,
    .run (.binOp .add 3 (.tmp 0) (.const (.int .i64 1)) 3) none] [(5, 0)])))))) (
.seq (
.reg [.run (.assign (.const (.bool true))) none] [(4, 0)]) (
.ret))))
theorem fn_law26_same : V.F 16 = some Tryd.f16 := by kernel_rfl
theorem is_law26_same : (V.F 16).isSome = true := by rw [fn_law26_same]; rfl
noncomputable def c_law26_same : Code := match Tryd.f16.body with
  | some c => c
  | none => .skip
theorem b_law26_same : Tryd.f16.body = some c_law26_same := rfl
theorem pc_law26_same : pcOf V Tryd.f16.ntmps (some (liveOf Tryd.f16 c_law26_same)) c_law26_same = some P_law26_same := by kernel_rfl
theorem Lc.law26_same {O : Orc} {vs : List Value} {H : AH} {R : Value → AH → Prop} (ho : O 16 vs H = none) (hlen : vs.length ≤ Tryd.f16.ntmps) (hlive : (List.range vs.length).all (isLive (some (liveOf Tryd.f16 c_law26_same))) = true)
    (h : WP V O (some (liveOf Tryd.f16 c_law26_same)) Tryd.f16.ntmps P_law26_same (initL vs 0) H fun e l H' => (e = .normal ∨ e = .ret) ∧ ∃ rs, resL V l H' Tryd.f16.results.toList = some rs ∧ R (resOf rs) H') : ∃ v H', Lc V O 16 vs H v H' ∧ R v H' :=
  Lc.fnP ho fn_law26_same b_law26_same pc_law26_same hlen hlive h
/- bobbin/merge.Count -/
abbrev F_merge_Count : FuncId := 17
def P_merge_Count : PC :=
.seq (
.reg [.run (.box 24 (.tmp (far + 0))) none,
  .run (.box 24 (.tmp (far + 1))) none,
  .run (.assign (.const (.int .i64 0))) none] [(4, 0), (3, 1), (2, 2)]) (
.seq (
.rega [.run (.load 24 (.tmp (far + 2))) none,
  .run (.load 24 (.tmp (far + 3))) none,
  .run (.call ⟨.value (.func 39), #[(.tmp 1)], #[24]⟩) none,
  .run (.call ⟨.value (.func 39), #[(.tmp 1)], #[24]⟩) none,
  .run (.binOp .sub 3 (.tmp 1) (.tmp 0) 3) none] [(4, 0)] 5 [⟨.load 24 (.tmp (far + 3)), none, 1, 3⟩]) (
.ret))
theorem fn_merge_Count : V.F 17 = some Tryd.f17 := by kernel_rfl
theorem is_merge_Count : (V.F 17).isSome = true := by rw [fn_merge_Count]; rfl
noncomputable def c_merge_Count : Code := match Tryd.f17.body with
  | some c => c
  | none => .skip
theorem b_merge_Count : Tryd.f17.body = some c_merge_Count := rfl
theorem pc_merge_Count : pcOf V Tryd.f17.ntmps (some (liveOf Tryd.f17 c_merge_Count)) c_merge_Count = some P_merge_Count := by kernel_rfl
theorem Lc.merge_Count {O : Orc} {vs : List Value} {H : AH} {R : Value → AH → Prop} (ho : O 17 vs H = none) (hlen : vs.length ≤ Tryd.f17.ntmps) (hlive : (List.range vs.length).all (isLive (some (liveOf Tryd.f17 c_merge_Count))) = true)
    (h : WP V O (some (liveOf Tryd.f17 c_merge_Count)) Tryd.f17.ntmps P_merge_Count (initL vs 0) H fun e l H' => (e = .normal ∨ e = .ret) ∧ ∃ rs, resL V l H' Tryd.f17.results.toList = some rs ∧ R (resOf rs) H') : ∃ v H', Lc V O 17 vs H v H' ∧ R v H' :=
  Lc.fnP ho fn_merge_Count b_merge_Count pc_merge_Count hlen hlive h
/- bobbin/bobbinref12.Ints -/
abbrev F_ref12_Ints : FuncId := 18
def P_ref12_Ints : PC :=
.seq (
.reg [.run (.assign (.const (.bool false))) none] [(4, 0)]) (
.seq (
.seq (
.reg [.get 0,
  .run (.call ⟨.builtin .len, #[(.tmp 0)], #[32]⟩) none,
  .get 1,
  .run (.call ⟨.builtin .len, #[(.tmp 0)], #[32]⟩) none,
  .run (.binOp .neq 3 (.tmp 2) (.tmp 0) 3) none] [(10, 0)]) (
.cond (.tmp 10) (
  .seq (
  .reg [.run (.assign (.const (.bool false))) none] [(4, 0)]) (
  .ret)) (
  .skip))) (
.seq (
.seq (
.reg [.run (.assign (.const (.int .i64 0))) none] [(5, 0)]) (
.block 0 (
 .loop (
  .seq (
  .seq (
  .reg [.get 5,
    .get 0,
    .run (.call ⟨.builtin .len, #[(.tmp 0)], #[32]⟩) none,
    .run (.binOp .lss 3 (.tmp 2) (.tmp 0) 3) none] [(14, 0)]) (
  .cond (.tmp 14) (
    .skip) (
    .exit 0))) (
  .seq (
  .block 1 (
   .seq (
   .reg [.get 0,
     .get 5,
     .run (.indexAddr 32 (.tmp 1) (.tmp 0)) none,
     .run (.load 3 (.tmp 0)) none,
     .get 1,
     .get 5,
     .run (.indexAddr 32 (.tmp 1) (.tmp 0)) none,
     .run (.load 3 (.tmp 0)) none,
     .run (.binOp .neq 3 (.tmp 4) (.tmp 0) 3) none] [(25, 0)]) (
   .cond (.tmp 25) (
     .seq (
     .reg [.run (.assign (.const (.bool false))) none] [(4, 0)]) (
     .ret)) (
     .skip)))) (
  .reg [.get 5,
    .run (.binOp .add 3 (.tmp 0) (.const (.int .i64 1)) 3) none] [(5, 0)])))))) (
.seq (
.reg [.run (.assign (.const (.bool true))) none] [(4, 0)]) (
.ret))))
theorem fn_ref12_Ints : V.F 18 = some Tryd.f18 := by kernel_rfl
theorem is_ref12_Ints : (V.F 18).isSome = true := by rw [fn_ref12_Ints]; rfl
noncomputable def c_ref12_Ints : Code := match Tryd.f18.body with
  | some c => c
  | none => .skip
theorem b_ref12_Ints : Tryd.f18.body = some c_ref12_Ints := rfl
theorem pc_ref12_Ints : pcOf V Tryd.f18.ntmps (some (liveOf Tryd.f18 c_ref12_Ints)) c_ref12_Ints = some P_ref12_Ints := by kernel_rfl
theorem Lc.ref12_Ints {O : Orc} {vs : List Value} {H : AH} {R : Value → AH → Prop} (ho : O 18 vs H = none) (hlen : vs.length ≤ Tryd.f18.ntmps) (hlive : (List.range vs.length).all (isLive (some (liveOf Tryd.f18 c_ref12_Ints))) = true)
    (h : WP V O (some (liveOf Tryd.f18 c_ref12_Ints)) Tryd.f18.ntmps P_ref12_Ints (initL vs 0) H fun e l H' => (e = .normal ∨ e = .ret) ∧ ∃ rs, resL V l H' Tryd.f18.results.toList = some rs ∧ R (resOf rs) H') : ∃ v H', Lc V O 18 vs H v H' ∧ R v H' :=
  Lc.fnP ho fn_ref12_Ints b_ref12_Ints pc_ref12_Ints hlen hlive h
/- bobbin/bobbinlaw26.graph -/
abbrev F_law26_graph : FuncId := 36
def P_law26_graph : PC :=
.seq (
.reg [.run (.alloc 24) none] [(4, 0)]) (
.seq (
.reg [.get 0,
  .get 1,
  .run (.build 39 #[(0, (.const (.int .u8 13)))]) none,
  .run (.buildSlice 31 1 #[(0, (.tmp 0))]) none,
  .run (.call ⟨.builtin .append, #[(.tmp 2), (.tmp 0)], #[31, 31]⟩) none,
  .run (.build 34 #[(1, (.tmp 0))]) none,
  .run (.buildSlice 22 1 #[(0, (.tmp 0))]) none,
  .run (.build 24 #[(1, (.const (.bool true))), (3, (.tmp 6)), (4, (.tmp 0))]) none,
  .run (.store 24 (.tmp (far + 4)) (.tmp 0)) none] []) (
.ret))
theorem fn_law26_graph : V.F 36 = some Tryd.f36 := by kernel_rfl
theorem is_law26_graph : (V.F 36).isSome = true := by rw [fn_law26_graph]; rfl
noncomputable def c_law26_graph : Code := match Tryd.f36.body with
  | some c => c
  | none => .skip
theorem b_law26_graph : Tryd.f36.body = some c_law26_graph := rfl
theorem pc_law26_graph : pcOf V Tryd.f36.ntmps (some (liveOf Tryd.f36 c_law26_graph)) c_law26_graph = some P_law26_graph := by kernel_rfl
theorem Lc.law26_graph {O : Orc} {vs : List Value} {H : AH} {R : Value → AH → Prop} (ho : O 36 vs H = none) (hlen : vs.length ≤ Tryd.f36.ntmps) (hlive : (List.range vs.length).all (isLive (some (liveOf Tryd.f36 c_law26_graph))) = true)
    (h : WP V O (some (liveOf Tryd.f36 c_law26_graph)) Tryd.f36.ntmps P_law26_graph (initL vs 0) H fun e l H' => (e = .normal ∨ e = .ret) ∧ ∃ rs, resL V l H' Tryd.f36.results.toList = some rs ∧ R (resOf rs) H') : ∃ v H', Lc V O 36 vs H v H' ∧ R v H' :=
  Lc.fnP ho fn_law26_graph b_law26_graph pc_law26_graph hlen hlive h
/- bobbin/merge.block -/
abbrev F_merge_block : FuncId := 37
def P_merge_block : PC :=
.seq (
.reg [.run (.box 34 (.tmp (far + 0))) none,
  .run (.alloc 34) none] [(2, 0), (1, 1)]) (
.seq (
.rega [.run (.fieldAddr 34 (.tmp (far + 1)) 2) none,
  .run (.load 32 (.tmp 0)) none,
  .run (.fieldAddr 34 (.tmp (far + 1)) 3) none,
  .run (.load 32 (.tmp 0)) none,
  .run (.alloc 34) none,
  .run (.call ⟨.value (.func 69), #[(.tmp 3)], #[32]⟩) none,
  .run (.call ⟨.value (.func 69), #[(.tmp 2)], #[32]⟩) none,
  .run (.build 34 #[(2, (.tmp 1)), (3, (.tmp 0))]) none,
  .run (.store 34 (.tmp 3) (.tmp 0)) none] [(3, 4)] 9 [⟨.load 32 (.tmp 6), none, 3, 6⟩]) (
.seq (
.seq (
.reg [.run (.fieldAddr 34 (.tmp (far + 1)) 0) none,
  .run (.load 30 (.tmp 0)) none,
  .run (.call ⟨.builtin .len, #[(.tmp 0)], #[30]⟩) none,
  .run (.move (.const (.int .i64 0))) none] [(19, 0), (18, 1), (17, 2)]) (
.block 0 (
 .loop (
  .seq (
  .reg [.run (.binOp .lss 3 (.tmp (far + 19)) (.tmp (far + 18)) 3) none] [(20, 0)]) (
  .seq (
  .cond (.tmp 20) (
    .skip) (
    .exit 0)) (
  .seq (
  .block 1 (
   .seq (
   .reg [.run (.indexAddr 30 (.tmp (far + 17)) (.tmp (far + 19))) none,
     .run (.load 50 (.tmp 0)) none,
     .run (.alloc 50) none,
     .run (.store 50 (.tmp 0) (.tmp 1)) none] [(5, 1)]) (
   .rega [.run (.fieldAddr 34 (.tmp (far + 3)) 0) none,
     .run (.load 30 (.tmp 0)) none,
     .run (.fieldAddr 50 (.tmp (far + 5)) 0) none,
     .run (.load 3 (.tmp 0)) none,
     .run (.fieldAddr 50 (.tmp (far + 5)) 1) none,
     .run (.load 32 (.tmp 0)) none,
     .run (.call ⟨.value (.func 69), #[(.tmp 0)], #[32]⟩) none,
     .run (.build 50 #[(0, (.tmp 3)), (1, (.tmp 0))]) none,
     .run (.buildSlice 30 1 #[(0, (.tmp 0))]) none,
     .run (.call ⟨.builtin .append, #[(.tmp 7), (.tmp 0)], #[30, 30]⟩) none,
     .run (.fieldAddr 34 (.tmp (far + 3)) 0) none,
     .run (.store 30 (.tmp 0) (.tmp 1)) none] [] 12 [⟨.load 30 (.tmp 11), none, 1, 9⟩, ⟨.load 3 (.tmp 9), none, 3, 9⟩]))) (
  .reg [.run (.binOp .add 3 (.tmp (far + 19)) (.const (.int .i64 1)) 3) none] [(19, 0)]))))))) (
.seq (
.seq (
.reg [.run (.fieldAddr 34 (.tmp (far + 1)) 1) none,
  .run (.load 31 (.tmp 0)) none,
  .run (.call ⟨.builtin .len, #[(.tmp 0)], #[31]⟩) none,
  .run (.move (.const (.int .i64 0))) none] [(38, 0), (37, 1), (36, 2)]) (
.block 2 (
 .loop (
  .seq (
  .reg [.run (.binOp .lss 3 (.tmp (far + 38)) (.tmp (far + 37)) 3) none] [(39, 0)]) (
  .seq (
  .cond (.tmp 39) (
    .skip) (
    .exit 2)) (
  .seq (
  .block 3 (
   .seq (
   .reg [.run (.indexAddr 31 (.tmp (far + 36)) (.tmp (far + 38))) none,
     .run (.load 39 (.tmp 0)) none,
     .run (.alloc 39) none,
     .run (.store 39 (.tmp 0) (.tmp 1)) none] [(7, 1)]) (
   .seq (
   .seq (
   .reg [.run (.fieldAddr 39 (.tmp (far + 7)) 0) none,
     .run (.load 5 (.tmp 0)) none,
     .run (.binOp .eql 5 (.tmp 0) (.const (.int .u8 7)) 5) none] [(44, 0)]) (
   .cond (.tmp 44) (
     .seq (
     .reg [.run (.fieldAddr 34 (.tmp (far + 3)) 1) none,
       .run (.load 31 (.tmp 0)) none,
       .run (.fieldAddr 39 (.tmp (far + 7)) 4) none,
       .run (.load 2 (.tmp 0)) none,
       .run (.call ⟨.value (.func 70), #[(.tmp 2), (.tmp 0)], #[31, 2]⟩) none] [(8, 0)]) (
     .seq (
     .reg [.get 8,
       .run (.binOp .geq 3 (.tmp 0) (.const (.int .i64 0)) 3) none] [(51, 0)]) (
     .cond (.tmp 51) (
       .seq (
       .reg [.run (.fieldAddr 34 (.tmp (far + 3)) 1) none,
         .run (.load 31 (.tmp 0)) none,
         .get 8,
         .get 8,
         .run (.slice 31 (.tmp 2) none (some (.tmp 1)) (some (.tmp 0))) none,
         .run (.fieldAddr 34 (.tmp (far + 3)) 1) none,
         .run (.load 31 (.tmp 0)) none,
         .get 8,
         .run (.binOp .add 3 (.tmp 0) (.const (.int .i64 1)) 3) none,
         .run (.slice 31 (.tmp 2) (some (.tmp 0)) none none) none,
         .run (.call ⟨.builtin .append, #[(.tmp 5), (.tmp 0)], #[31, 31]⟩) none,
         .run (.fieldAddr 34 (.tmp (far + 3)) 1) none,
         .run (.store 31 (.tmp 0) (.tmp 1)) none] []) (
       .exit 3)) (
       .skip)))) (
     .skip))) (
   .seq (
   .reg [.run (.fieldAddr 39 (.tmp (far + 7)) 5) none,
     .run (.load 32 (.tmp 0)) none,
     .run (.call ⟨.value (.func 69), #[(.tmp 0)], #[32]⟩) none,
     .run (.fieldAddr 39 (.tmp (far + 7)) 5) none,
     .run (.store 32 (.tmp 0) (.tmp 1)) none] []) (
   .reg [.run (.fieldAddr 34 (.tmp (far + 3)) 1) none,
     .run (.load 31 (.tmp 0)) none,
     .run (.load 39 (.tmp (far + 7))) none,
     .run (.buildSlice 31 1 #[(0, (.tmp 0))]) none,
     .run (.call ⟨.builtin .append, #[(.tmp 2), (.tmp 0)], #[31, 31]⟩) none,
     .run (.fieldAddr 34 (.tmp (far + 3)) 1) none,
     .run (.store 31 (.tmp 0) (.tmp 1)) none] []))))) (
  .reg [.run (.binOp .add 3 (.tmp (far + 38)) (.const (.int .i64 1)) 3) none] [(38, 0)]))))))) (
.seq (
.reg [.run (.load 34 (.tmp (far + 3))) none,
  .run (.store 34 (.tmp (far + 2)) (.tmp 0)) none] []) (
.ret)))))
theorem fn_merge_block : V.F 37 = some Tryd.f37 := by kernel_rfl
theorem is_merge_block : (V.F 37).isSome = true := by rw [fn_merge_block]; rfl
noncomputable def c_merge_block : Code := match Tryd.f37.body with
  | some c => c
  | none => .skip
theorem b_merge_block : Tryd.f37.body = some c_merge_block := rfl
theorem pc_merge_block : pcOf V Tryd.f37.ntmps (some (liveOf Tryd.f37 c_merge_block)) c_merge_block = some P_merge_block := by kernel_rfl
theorem Lc.merge_block {O : Orc} {vs : List Value} {H : AH} {R : Value → AH → Prop} (ho : O 37 vs H = none) (hlen : vs.length ≤ Tryd.f37.ntmps) (hlive : (List.range vs.length).all (isLive (some (liveOf Tryd.f37 c_merge_block))) = true)
    (h : WP V O (some (liveOf Tryd.f37 c_merge_block)) Tryd.f37.ntmps P_merge_block (initL vs 0) H fun e l H' => (e = .normal ∨ e = .ret) ∧ ∃ rs, resL V l H' Tryd.f37.results.toList = some rs ∧ R (resOf rs) H') : ∃ v H', Lc V O 37 vs H v H' ∧ R v H' :=
  Lc.fnP ho fn_merge_block b_merge_block pc_merge_block hlen hlive h
/- bobbin/bobbinref26.quiet -/
abbrev F_ref26_quiet : FuncId := 38
def P_ref26_quiet : PC :=
.seq (
.reg [.run (.box 39 (.tmp (far + 0))) none,
  .run (.assign (.const (.bool false))) none] [(2, 0), (1, 1)]) (
.seq (
.reg [.run (.fieldAddr 39 (.tmp (far + 1)) 0) none,
  .run (.load 5 (.tmp 0)) none,
  .run (.binOp .eql 5 (.tmp 0) (.const (.int .u8 1)) 5) none,
  .run (.fieldAddr 39 (.tmp (far + 1)) 0) (some ((.tmp 0), false)),
  .run (.load 5 (.tmp 0)) (some ((.tmp 1), false)),
  .run (.binOp .eql 5 (.tmp 0) (.const (.int .u8 2)) 5) (some ((.tmp 2), false)),
  .run (.pick (.tmp 3) (.const (.bool true)) (.tmp 0)) none,
  .run (.fieldAddr 39 (.tmp (far + 1)) 0) (some ((.tmp 0), false)),
  .run (.load 5 (.tmp 0)) (some ((.tmp 1), false)),
  .run (.binOp .eql 5 (.tmp 0) (.const (.int .u8 3)) 5) (some ((.tmp 2), false)),
  .run (.pick (.tmp 3) (.const (.bool true)) (.tmp 0)) none,
  .run (.fieldAddr 39 (.tmp (far + 1)) 0) (some ((.tmp 0), false)),
  .run (.load 5 (.tmp 0)) (some ((.tmp 1), false)),
  .run (.binOp .eql 5 (.tmp 0) (.const (.int .u8 4)) 5) (some ((.tmp 2), false)),
  .run (.pick (.tmp 3) (.const (.bool true)) (.tmp 0)) none] [(2, 0)]) (
.ret))
theorem fn_ref26_quiet : V.F 38 = some Tryd.f38 := by kernel_rfl
theorem is_ref26_quiet : (V.F 38).isSome = true := by rw [fn_ref26_quiet]; rfl
noncomputable def c_ref26_quiet : Code := match Tryd.f38.body with
  | some c => c
  | none => .skip
theorem b_ref26_quiet : Tryd.f38.body = some c_ref26_quiet := rfl
theorem pc_ref26_quiet : pcOf V Tryd.f38.ntmps (some (liveOf Tryd.f38 c_ref26_quiet)) c_ref26_quiet = some P_ref26_quiet := by kernel_rfl
theorem Lc.ref26_quiet {O : Orc} {vs : List Value} {H : AH} {R : Value → AH → Prop} (ho : O 38 vs H = none) (hlen : vs.length ≤ Tryd.f38.ntmps) (hlive : (List.range vs.length).all (isLive (some (liveOf Tryd.f38 c_ref26_quiet))) = true)
    (h : WP V O (some (liveOf Tryd.f38 c_ref26_quiet)) Tryd.f38.ntmps P_ref26_quiet (initL vs 0) H fun e l H' => (e = .normal ∨ e = .ret) ∧ ∃ rs, resL V l H' Tryd.f38.results.toList = some rs ∧ R (resOf rs) H') : ∃ v H', Lc V O 38 vs H v H' ∧ R v H' :=
  Lc.fnP ho fn_ref26_quiet b_ref26_quiet pc_ref26_quiet hlen hlive h
/- bobbin/merge.taken -/
abbrev F_merge_taken : FuncId := 39
def P_merge_taken : PC :=
.seq (
.reg [.run (.box 24 (.tmp (far + 0))) none,
  .run (.assign (.const (.int .i64 0))) none] [(2, 0), (1, 1)]) (
.seq (
.reg [.run (.assign (.const (.int .i64 0))) none] [(3, 0)]) (
.seq (
.seq (
.reg [.run (.fieldAddr 24 (.tmp (far + 1)) 4) none,
  .run (.load 22 (.tmp 0)) none,
  .run (.call ⟨.builtin .len, #[(.tmp 0)], #[22]⟩) none,
  .run (.move (.const (.int .i64 0))) none] [(11, 0), (10, 1), (9, 2)]) (
.block 0 (
 .loop (
  .seq (
  .reg [.run (.binOp .lss 3 (.tmp (far + 11)) (.tmp (far + 10)) 3) none] [(12, 0)]) (
  .seq (
  .cond (.tmp 12) (
    .skip) (
    .exit 0)) (
  .seq (
  .block 1 (
   .seq (
   .reg [.run (.indexAddr 22 (.tmp (far + 9)) (.tmp (far + 11))) none,
     .run (.load 34 (.tmp 0)) none,
     .run (.alloc 34) none,
     .run (.store 34 (.tmp 0) (.tmp 1)) none] [(5, 1)]) (
   .seq (
   .reg [.run (.fieldAddr 34 (.tmp (far + 5)) 1) none,
     .run (.load 31 (.tmp 0)) none,
     .run (.call ⟨.builtin .len, #[(.tmp 0)], #[31]⟩) none,
     .run (.move (.const (.int .i64 0))) none] [(18, 0), (17, 1), (16, 2)]) (
   .block 2 (
    .loop (
     .seq (
     .reg [.run (.binOp .lss 3 (.tmp (far + 18)) (.tmp (far + 17)) 3) none] [(19, 0)]) (
     .seq (
     .cond (.tmp 19) (
       .skip) (
       .exit 2)) (
     .seq (
     .block 3 (
      .seq (
      .reg [.run (.indexAddr 31 (.tmp (far + 16)) (.tmp (far + 18))) none,
        .run (.load 39 (.tmp 0)) none,
        .run (.alloc 39) none,
        .run (.store 39 (.tmp 0) (.tmp 1)) none] [(7, 1)]) (
      .seq (
      .reg [.run (.fieldAddr 39 (.tmp (far + 7)) 0) none,
        .run (.load 5 (.tmp 0)) none,
        .run (.binOp .eql 5 (.tmp 0) (.const (.int .u8 7)) 5) none] [(24, 0)]) (
      .cond (.tmp 24) (
        .reg [.get 3,
          .run (.binOp .add 3 (.tmp 0) (.const (.int .i64 1)) 3) none] [(3, 0)]) (
        .skip))))) (
     .reg [.run (.binOp .add 3 (.tmp (far + 18)) (.const (.int .i64 1)) 3) none] [(18, 0)]))))))))) (
  .reg [.run (.binOp .add 3 (.tmp (far + 11)) (.const (.int .i64 1)) 3) none] [(11, 0)]))))))) (
.seq (
.reg [.get 3] [(2, 0)]) (
.ret))))
theorem fn_merge_taken : V.F 39 = some Tryd.f39 := by kernel_rfl
theorem is_merge_taken : (V.F 39).isSome = true := by rw [fn_merge_taken]; rfl
noncomputable def c_merge_taken : Code := match Tryd.f39.body with
  | some c => c
  | none => .skip
theorem b_merge_taken : Tryd.f39.body = some c_merge_taken := rfl
theorem pc_merge_taken : pcOf V Tryd.f39.ntmps (some (liveOf Tryd.f39 c_merge_taken)) c_merge_taken = some P_merge_taken := by kernel_rfl
theorem Lc.merge_taken {O : Orc} {vs : List Value} {H : AH} {R : Value → AH → Prop} (ho : O 39 vs H = none) (hlen : vs.length ≤ Tryd.f39.ntmps) (hlive : (List.range vs.length).all (isLive (some (liveOf Tryd.f39 c_merge_taken))) = true)
    (h : WP V O (some (liveOf Tryd.f39 c_merge_taken)) Tryd.f39.ntmps P_merge_taken (initL vs 0) H fun e l H' => (e = .normal ∨ e = .ret) ∧ ∃ rs, resL V l H' Tryd.f39.results.toList = some rs ∧ R (resOf rs) H') : ∃ v H', Lc V O 39 vs H v H' ∧ R v H' :=
  Lc.fnP ho fn_merge_taken b_merge_taken pc_merge_taken hlen hlive h
/- bobbin/merge.gives -/
abbrev F_merge_gives : FuncId := 70
def P_merge_gives : PC :=
.seq (
.reg [.run (.box 2 (.tmp (far + 1))) none,
  .run (.alloc 3) none] [(4, 0), (3, 1)]) (
.seq (
.seq (
.reg [.get 0,
  .run (.call ⟨.value (.func 105), #[(.tmp 0)], #[31]⟩) none] [(8, 0)]) (
.block 0 (
 .rfunc (.tmp 8) #[9, 10] (
  .seq (
  .reg [.run (.assign (.tmp (far + 9))) none] [(5, 0)]) (
  .reg [.run (.alloc 39) none,
    .run (.store 39 (.tmp 0) (.tmp (far + 10))) none] [(6, 1)])) (
  .block 1 (
   .block 2 (
    .seq (
    .reg [.run (.fieldAddr 39 (.tmp (far + 6)) 0) none,
      .run (.load 5 (.tmp 0)) none,
      .run (.indexAddr 150 (.global 1) (.tmp 0)) none,
      .run (.load 4 (.tmp 0)) none] [(11, 0), (15, 0), (14, 1), (13, 2), (12, 3)]) (
    .cond (.tmp 11) (
      .skip) (
      .seq (
      .reg [.run (.fieldAddr 39 (.tmp (far + 6)) 0) none,
        .run (.load 5 (.tmp 0)) none,
        .run (.binOp .eql 5 (.tmp 0) (.const (.int .u8 8)) 5) none,
        .run (.fieldAddr 39 (.tmp (far + 6)) 4) (some ((.tmp 0), true)),
        .run (.load 2 (.tmp 0)) (some ((.tmp 1), true)),
        .run (.load 2 (.tmp (far + 3))) (some ((.tmp 2), true)),
        .run (.binOp .eql 2 (.tmp 1) (.tmp 0) 2) (some ((.tmp 3), true)),
        .run (.pick (.tmp 4) (.tmp 0) (.const (.bool false))) none] [(16, 0), (25, 0), (24, 1), (23, 2), (22, 3), (21, 4), (20, 5), (19, 5), (18, 6), (17, 7)]) (
      .cond (.tmp 16) (
        .seq (
        .reg [.get 5,
          .run (.store 3 (.tmp (far + 4)) (.tmp 0)) none] [(26, 1)]) (
        .ret)) (
        .seq (
        .reg [.run (.store 3 (.tmp (far + 4)) (.const (.int .i64 (-1)))) none] []) (
        .ret))))))))))) (
.seq (
.reg [.run (.store 3 (.tmp (far + 4)) (.const (.int .i64 (-1)))) none] []) (
.ret)))
theorem fn_merge_gives : V.F 70 = some Tryd.f70 := by kernel_rfl
theorem is_merge_gives : (V.F 70).isSome = true := by rw [fn_merge_gives]; rfl
noncomputable def c_merge_gives : Code := match Tryd.f70.body with
  | some c => c
  | none => .skip
theorem b_merge_gives : Tryd.f70.body = some c_merge_gives := rfl
theorem pc_merge_gives : pcOf V Tryd.f70.ntmps (some (liveOf Tryd.f70 c_merge_gives)) c_merge_gives = some P_merge_gives := by kernel_rfl
theorem Lc.merge_gives {O : Orc} {vs : List Value} {H : AH} {R : Value → AH → Prop} (ho : O 70 vs H = none) (hlen : vs.length ≤ Tryd.f70.ntmps) (hlive : (List.range vs.length).all (isLive (some (liveOf Tryd.f70 c_merge_gives))) = true)
    (h : WP V O (some (liveOf Tryd.f70 c_merge_gives)) Tryd.f70.ntmps P_merge_gives (initL vs 0) H fun e l H' => (e = .normal ∨ e = .ret) ∧ ∃ rs, resL V l H' Tryd.f70.results.toList = some rs ∧ R (resOf rs) H') : ∃ v H', Lc V O 70 vs H v H' ∧ R v H' :=
  Lc.fnP ho fn_merge_gives b_merge_gives pc_merge_gives hlen hlive h
/- slices.Backward[[]bobbin/api.Ins,bobbin/api.Ins] -/
abbrev F_slices_Backward_s_api_Ins_api_Ins : FuncId := 105
def P_slices_Backward_s_api_Ins_api_Ins : PC :=
.seq (
.reg [.run (.box 31 (.tmp (far + 0))) none,
  .run (.assign (.const .nilFunc)) none] [(2, 0), (1, 1)]) (
.seq (
.reg [.run (.makeFunc (.func 123) #[] #[(.tmp (far + 1))]) none] [(2, 0)]) (
.ret))
theorem fn_slices_Backward_s_api_Ins_api_Ins : V.F 105 = some Tryd.f105 := by kernel_rfl
theorem is_slices_Backward_s_api_Ins_api_Ins : (V.F 105).isSome = true := by rw [fn_slices_Backward_s_api_Ins_api_Ins]; rfl
noncomputable def c_slices_Backward_s_api_Ins_api_Ins : Code := match Tryd.f105.body with
  | some c => c
  | none => .skip
theorem b_slices_Backward_s_api_Ins_api_Ins : Tryd.f105.body = some c_slices_Backward_s_api_Ins_api_Ins := rfl
theorem pc_slices_Backward_s_api_Ins_api_Ins : pcOf V Tryd.f105.ntmps (some (liveOf Tryd.f105 c_slices_Backward_s_api_Ins_api_Ins)) c_slices_Backward_s_api_Ins_api_Ins = some P_slices_Backward_s_api_Ins_api_Ins := by kernel_rfl
theorem Lc.slices_Backward_s_api_Ins_api_Ins {O : Orc} {vs : List Value} {H : AH} {R : Value → AH → Prop} (ho : O 105 vs H = none) (hlen : vs.length ≤ Tryd.f105.ntmps) (hlive : (List.range vs.length).all (isLive (some (liveOf Tryd.f105 c_slices_Backward_s_api_Ins_api_Ins))) = true)
    (h : WP V O (some (liveOf Tryd.f105 c_slices_Backward_s_api_Ins_api_Ins)) Tryd.f105.ntmps P_slices_Backward_s_api_Ins_api_Ins (initL vs 0) H fun e l H' => (e = .normal ∨ e = .ret) ∧ ∃ rs, resL V l H' Tryd.f105.results.toList = some rs ∧ R (resOf rs) H') : ∃ v H', Lc V O 105 vs H v H' ∧ R v H' :=
  Lc.fnP ho fn_slices_Backward_s_api_Ins_api_Ins b_slices_Backward_s_api_Ins_api_Ins pc_slices_Backward_s_api_Ins_api_Ins hlen hlive h
/- slices.Backward[[]bobbin/api.Ins,bobbin/api.Ins]$1 -/
abbrev F_slices_Backward_s_api_Ins_api_Ins__q1 : FuncId := 123
def P_slices_Backward_s_api_Ins_api_Ins__q1 : PC :=
.seq (
.reg [.run (.load 31 (.tmp (far + 1))) none,
  .run (.call ⟨.builtin .len, #[(.tmp 0)], #[31]⟩) none,
  .run (.binOp .sub 3 (.tmp 0) (.const (.int .i64 1)) 3) none] [(3, 0)]) (
.block 0 (
 .loop (
  .seq (
  .seq (
  .reg [.get 3,
    .run (.binOp .geq 3 (.tmp 0) (.const (.int .i64 0)) 3) none] [(8, 0)]) (
  .cond (.tmp 8) (
    .skip) (
    .exit 0))) (
  .seq (
  .block 1 (
   .seq (
   .reg [.get 0,
     .get 3,
     .run (.load 31 (.tmp (far + 1))) none,
     .get 3,
     .run (.indexAddr 31 (.tmp 1) (.tmp 0)) none,
     .run (.load 39 (.tmp 0)) none,
     .run (.call ⟨.value (.tmp 5), #[(.tmp 4), (.tmp 0)], #[3, 39]⟩) none,
     .run (.unOp .not 4 (.tmp 0)) none] [(18, 0)]) (
   .cond (.tmp 18) (
     .ret) (
     .skip)))) (
  .reg [.get 3,
    .run (.binOp .sub 3 (.tmp 0) (.const (.int .i64 1)) 3) none] [(3, 0)])))))
theorem fn_slices_Backward_s_api_Ins_api_Ins__q1 : V.F 123 = some Tryd.f123 := by kernel_rfl
theorem is_slices_Backward_s_api_Ins_api_Ins__q1 : (V.F 123).isSome = true := by rw [fn_slices_Backward_s_api_Ins_api_Ins__q1]; rfl
noncomputable def c_slices_Backward_s_api_Ins_api_Ins__q1 : Code := match Tryd.f123.body with
  | some c => c
  | none => .skip
theorem b_slices_Backward_s_api_Ins_api_Ins__q1 : Tryd.f123.body = some c_slices_Backward_s_api_Ins_api_Ins__q1 := rfl
theorem pc_slices_Backward_s_api_Ins_api_Ins__q1 : pcOf V Tryd.f123.ntmps (some (liveOf Tryd.f123 c_slices_Backward_s_api_Ins_api_Ins__q1)) c_slices_Backward_s_api_Ins_api_Ins__q1 = some P_slices_Backward_s_api_Ins_api_Ins__q1 := by kernel_rfl
theorem Lc.slices_Backward_s_api_Ins_api_Ins__q1 {O : Orc} {vs : List Value} {H : AH} {R : Value → AH → Prop} (ho : O 123 vs H = none) (hlen : vs.length ≤ Tryd.f123.ntmps) (hlive : (List.range vs.length).all (isLive (some (liveOf Tryd.f123 c_slices_Backward_s_api_Ins_api_Ins__q1))) = true)
    (h : WP V O (some (liveOf Tryd.f123 c_slices_Backward_s_api_Ins_api_Ins__q1)) Tryd.f123.ntmps P_slices_Backward_s_api_Ins_api_Ins__q1 (initL vs 0) H fun e l H' => (e = .normal ∨ e = .ret) ∧ ∃ rs, resL V l H' Tryd.f123.results.toList = some rs ∧ R (resOf rs) H') : ∃ v H', Lc V O 123 vs H v H' ∧ R v H' :=
  Lc.fnP ho fn_slices_Backward_s_api_Ins_api_Ins__q1 b_slices_Backward_s_api_Ins_api_Ins__q1 pc_slices_Backward_s_api_Ins_api_Ins__q1 hlen hlive h
end Go.Proofs.YtfhmdhndmlinkaaDoor.U

/-
  Contracts of merge: copies of numbers; the walk from the end.
-/
namespace Go.Proofs.YtfhmdhndmlinkaaDoor.U
open Go Go.Ev
attribute [local irreducible] WL WP WH W
theorem nil_nil : aBin V.P V.E .eql 32 (.tmp 0) (.const (.slice none 0 0)) (.slice none 0 0) (.slice none 0 0) = some (.bool true) := by kernel_rfl
attribute [local irreducible] V
variable {O : Orc} {H : AH}
theorem op_eqNil {g : Ft} {x y : Operand} {b off n c : Nat} (hx : g x = some (.slice (some ⟨b, off, none⟩) n c)) (hy : g y = some (.slice none 0 0)) : aopG V g H (.binOp .eql 32 x y 32) = some (.bool false, H) := by
  simp only [aopG, hx, hy, aBin, E_s_int, nilRes, Option.map_some]
theorem op_nilNil {g : Ft} (hx : g (.tmp 0) = some (.slice none 0 0)) (hy : g (.const (.slice none 0 0)) = some (.slice none 0 0)) : aopG V g H (.binOp .eql 32 (.tmp 0) (.const (.slice none 0 0)) 32) = some (.bool true, H) := by
  simp only [aopG, hx, hy, nil_nil, Option.map_some]
theorem clone_c (hO : NoO O) {A : Av} {v : Value} {l : List Int} (hv : IntsR A H v l) (hL : l.length ≤ 100000) :
    ∃ u H', Lc V O F_slices_Clone_s_int_int [v] H u H' ∧ (Fr H H' ∧ ∀ B : Av, B.Lt H.next → IntsR B H' u l) := by
  refine Lc.slices_Clone_s_int_int (R := fun u H' => Fr H H' ∧ ∀ B : Av, B.Lt H.next → IntsR B H' u l) (hO _ _ _ (by decide) (by decide) (by decide) (by decide)) (Nat.le_of_ble_eq_true rfl) (by kernel_rfl) ?_
  unfold P_slices_Clone_s_int_int
  obtain ⟨hc, ⟨rfl, hn⟩ | ⟨b, off, cap, rfl, hr⟩⟩ := hv
  · have hl : l = [] := List.length_eq_zero_iff.1 hn
    subst hl
    (repeat first | refine zSeq ?_ | refine zReg ?_ | refine zNil rfl ?_ | refine zGet rfl ?_ | refine zAsg rfl ?_)
    refine WL.op (op_nilNil rfl rfl) ?_
    (repeat first | refine zSeq ?_ | refine zReg ?_ | refine zNil rfl ?_ | refine zAsg rfl ?_ | refine zT rfl rfl ?_)
    exact WP.ret ⟨.inr rfl, _, rfl, .refl _, fun B _ => .nil⟩
  · have hv : IntsR A H (.slice (some ⟨b, off, none⟩) l.length cap) l := ⟨hc, .inr ⟨b, off, cap, rfl, hr⟩⟩
    have f5 := Fr.alloc H (.row 3 [] .exact 0 0)
    have w5 : OwI 3 (H.alloc (.row 3 [] .exact 0 0)) H.next (.slice (some ⟨H.next, 0, none⟩) 0 0) [] (some (H.next, H.next)) := .new (Nat.le_refl _)
    obtain ⟨v', H', o', k1, k2, k3, k4⟩ := w5.app (V := V) ((hv.fr f5).sl (by omega)) (by simp; omega) f5.1 E_s_int E_s_int E_int (by decide)
    (repeat first | refine zSeq ?_ | refine zReg ?_ | refine zNil rfl ?_ | refine zGet rfl ?_ | refine zAsg rfl ?_)
    refine WL.op (op_eqNil rfl rfl) ?_
    (repeat first | refine zSeq ?_ | refine zReg ?_ | refine zSkp ?_ | refine zNil rfl ?_ | refine zF rfl rfl ?_)
    refine WL.op (op_buildSlice rfl E_s_int E_int (by decide) rfl) ?_
    (repeat first | refine zGet rfl ?_)
    refine WL.op (k1 rfl rfl) ?_
    (repeat first | refine zNil rfl ?_)
    exact WP.ret ⟨.inr rfl, _, rfl, f5.young k3 w5.young.1 w5.young.2.1, fun B hB => by have := k2.rYoung hB; rw [List.nil_append] at this; exact this⟩
theorem backward_c (hO : NoO O) (v : Value) : ∃ w H', Lc V O F_slices_Backward_s_api_Ins_api_Ins [v] H w H' ∧ (w = .func (.func 123) #[] #[.pointer (some ⟨H.next, 0, none⟩)] ∧ Fr H H' ∧ Bx H' H.next 31 v.cells.toList) := by
  refine Lc.slices_Backward_s_api_Ins_api_Ins (R := fun w H' => w = .func (.func 123) #[] #[.pointer (some ⟨H.next, 0, none⟩)] ∧ Fr H H' ∧ Bx H' H.next 31 v.cells.toList) (hO _ _ _ (by decide) (by decide) (by decide) (by decide)) (Nat.le_of_ble_eq_true rfl) (by kernel_rfl) ?_
  unfold P_slices_Backward_s_api_Ins_api_Ins
  refine zSeq ?_
  refine zReg ?_
  refine zBox rfl (fun _ => rfl) fun H1 f1 b1 n1 => ?_
  (repeat first | refine zSeq ?_ | refine zReg ?_ | refine zNil rfl ?_ | refine zAsg rfl ?_)
  refine WL.op rfl ?_
  (repeat first | refine zNil rfl ?_)
  exact WP.ret ⟨.inr rfl, _, rfl, rfl, f1, b1⟩
theorem backward_it (hO : NoO O) {A : Av} {b c : Nat} {v : Value} {l : List Ins} (hL : l.length ≤ 1000000) (I : Nat → AH → Prop) (J : AH → Prop) (h0 : I l.length H) (hbx : ∀ k Hc, I k Hc → Bx Hc c 31 [v]) (hr : ∀ k Hc, I k Hc → Els 6 InsR A Hc v l) (hlv : ∀ Hz, aLen V.E Hz 31 v = some (.int .i64 l.length))
    (step : ∀ k (h : k < l.length) Hc, I (k + 1) Hc → ∀ va, IntsR A Hc va l[k].args → ∃ u H', Yd V O b [.int .i64 k, .agg (l[k].cells va).toArray] Hc (.bool u) H' ∧ (u = true → I k H') ∧ (u = false → J H')) :
    ∃ w H', Lc V O F_slices_Backward_s_api_Ins_api_Ins__q1 [.func (.yield b) #[] #[], .pointer (some ⟨c, 0, none⟩)] H w H' ∧ (I 0 H' ∨ J H') := by
  refine Lc.slices_Backward_s_api_Ins_api_Ins__q1 (R := fun _ H' => I 0 H' ∨ J H') (hO _ _ _ (by decide) (by decide) (by decide) (by decide)) (Nat.le_of_ble_eq_true rfl) (by kernel_rfl) ?_
  unfold P_slices_Backward_s_api_Ins_api_Ins__q1
  have hb0 := hbx _ H h0
  (repeat first | refine zSeq ?_ | refine zReg ?_ | refine zBlk ?_ | refine zNil rfl ?_ | refine zSub rfl rfl (by omega) ?_ | refine zLd (ty := 31) rfl (Bx.ld (by assumption) (by rfl) E_s_api_Ins rfl) ?_ | refine zLen rfl (hlv _) ?_)
  refine WP.loopH (σ := Nat) (fun k => [(0, .func (.yield b) #[] #[]), (1, .pointer (some ⟨c, 0, none⟩)), (3, .int .i64 ((k : Int) - 1))]) (fun k Hc => I k Hc ∧ k ≤ l.length) (fun k => k) l.length ⟨h0, Nat.le_refl _⟩ ⟨rfl, rfl, rfl, trivial⟩ ?_
  rintro k Hc ⟨hI, hk⟩
  have hbc := hbx k Hc hI
  cases k with
  | zero =>
    have g1 : decide ((((0 : Nat) : Int) - 1) ≥ 0) = false := decide_eq_false (by omega)
    (repeat first | refine zSeq ?_ | refine zReg ?_ | refine zExt ?_ | refine zNil rfl ?_ | refine zGet rfl ?_ | refine zGeq rfl rfl ?_ | refine zF rfl rfl ?_)
    exact ⟨.inl rfl, _, rfl, .inl hI⟩
  | succ k =>
    have g1 : decide ((((k + 1 : Nat) : Int) - 1) ≥ 0) = true := decide_eq_true (by omega)
    have h : k < l.length := by omega
    obtain ⟨b1, o1, cs, ha1, hrd, va, rfl, hva⟩ := (hr _ Hc hI).at E_s_api_Ins E_api_Ins te_api_Ins_size (kd := .i64) h
    rw [show ((k : Nat) : Int) = ((k + 1 : Nat) : Int) - 1 by omega] at ha1
    have hl1 := hrd.loadN (V := V) E_api_Ins te_api_Ins_agg te_api_Ins_size
    obtain ⟨u, H', hy, h1, h2⟩ := step k h Hc hI va hva
    rw [show ((k : Nat) : Int) = ((k + 1 : Nat) : Int) - 1 by omega] at hy
    (repeat first | refine zSeq ?_ | refine zReg ?_ | refine zBlk ?_ | refine zSkp ?_ | refine zNil rfl ?_ | refine zGet rfl ?_ | refine zGeq rfl rfl ?_ | refine zT rfl (by assumption) ?_ | refine zLd (ty := 31) rfl (Bx.ld (by assumption) (by rfl) E_s_api_Ins rfl) ?_ | refine zIdx rfl rfl ha1 ?_ | refine zLd rfl hl1 ?_)
    refine WL.yield rfl rfl hy ?_
    cases u
    · (repeat first | refine zNil rfl ?_ | refine zNot rfl ?_ | refine zT rfl rfl ?_)
      exact WP.ret ⟨.inr rfl, _, rfl, .inr (h2 rfl)⟩
    · (repeat first | refine zReg ?_ | refine zSkp ?_ | refine zNil rfl ?_ | refine zGet rfl ?_ | refine zSub rfl rfl (by omega) ?_ | refine zNot rfl ?_ | refine zF rfl rfl ?_)
      refine ⟨k, ⟨h1 rfl, by omega⟩, by omega, rfl, rfl, ?_, trivial⟩
      have : ((k + 1 : Nat) : Int) - 1 - 1 = (k : Int) - 1 := by omega
      exact congrArg (fun x => some (Value.int .i64 x)) this
end Go.Proofs.YtfhmdhndmlinkaaDoor.U

/-
  Contracts of merge: gives.
-/
namespace Go.Proofs.YtfhmdhndmlinkaaDoor.U
open Go Go.Ev
attribute [local irreducible] WL WP WH W
def quietC : List Value := [.bool false, .bool true, .bool true, .bool true, .bool true, .bool false, .bool false, .bool false, .bool false, .bool false, .bool false, .bool false, .bool false, .bool false]
def GM (H : AH) : Prop := 1 < H.next ∧ H.obj 1 = .row 150 quietC .ro 0 0
theorem GM.frX {H H' : AH} (h : GM H) {bs gs : List Nat} (k : FrX bs gs H H') (hb : 1 ∉ bs) : GM H' := ⟨Nat.lt_of_lt_of_le h.1 k.1, (k.2.1 1 h.1 hb).trans h.2⟩
theorem GM.fr {H H' : AH} (h : GM H) (k : Fr H H') : GM H' := ⟨Nat.lt_of_lt_of_le h.1 k.1, (k.2.1 1 h.1).trans h.2⟩
theorem quietC_at (x : Ins) (h : 0 ≤ x.op ∧ x.op < 14) : quietC[x.op.toNat]? = some (.bool (Mer.quiet x)) := by
  obtain ⟨n, hn⟩ : ∃ n : Nat, x.op = n := ⟨x.op.toNat, by omega⟩
  unfold Mer.quiet
  rw [hn]
  have : n = 0 ∨ n = 1 ∨ n = 2 ∨ n = 3 ∨ n = 4 ∨ n = 5 ∨ n = 6 ∨ n = 7 ∨ n = 8 ∨ n = 9 ∨ n = 10 ∨ n = 11 ∨ n = 12 ∨ n = 13 := by omega
  rcases this with rfl | rfl | rfl | rfl | rfl | rfl | rfl | rfl | rfl | rfl | rfl | rfl | rfl | rfl <;> rfl
theorem E_quiet : V.E 150 = some ⟨.array 14 4, 14, 14, .agg #[.bool false, .bool false, .bool false, .bool false, .bool false, .bool false, .bool false, .bool false, .bool false, .bool false, .bool false, .bool false, .bool false, .bool false]⟩ := by kernel_rfl
theorem global1 {E : List Value} {l : SL} : gS V.nG E l (.global 1) = some (.pointer (some ⟨1, 0, none⟩)) := by unfold V; rfl
attribute [local irreducible] V
variable {O : Orc} {H : AH}
set_option maxHeartbeats 1000000 in
theorem givesRound {n : Nat} {T : PTree Value} {cx cy : Code} {b b3 b4 : Nat} {k : Nat} {x : Ins} {va : Value} {lock : Int} {A : Av} {c4 : Value} {Hc : AH} (hn : n = Tryd.f70.ntmps) (ho : Hc.obj b = .loop .ready none n T #[9, 10] cx cy) (hT : Has T [(3, .pointer (some ⟨b3, 0, none⟩)), (4, .pointer (some ⟨b4, 0, none⟩))])
    (h3 : Bx Hc b3 2 [.int .i64 lock]) (h4 : Bx Hc b4 3 [c4]) (hb3 : b3 ≠ b) (hb4 : b4 ≠ b) (hb : b < Hc.next) (hg : GM Hc) (hb1 : 1 < b) (hop : 0 ≤ x.op ∧ x.op < 14) (hva : IntsR A Hc va x.args)
    (hx : pcOf V n none cx = some (.seq (
  .reg [.run (.assign (.tmp (far + 9))) none] [(5, 0)]) (
  .reg [.run (.alloc 39) none,
    .run (.store 39 (.tmp 0) (.tmp (far + 10))) none] [(6, 1)]))) (hy : pcOf V n none cy = some (.block 1 (
   .block 2 (
    .seq (
    .reg [.run (.fieldAddr 39 (.tmp (far + 6)) 0) none,
      .run (.load 5 (.tmp 0)) none,
      .run (.indexAddr 150 (.global 1) (.tmp 0)) none,
      .run (.load 4 (.tmp 0)) none] [(11, 0), (15, 0), (14, 1), (13, 2), (12, 3)]) (
    .cond (.tmp 11) (
      .skip) (
      .seq (
      .reg [.run (.fieldAddr 39 (.tmp (far + 6)) 0) none,
        .run (.load 5 (.tmp 0)) none,
        .run (.binOp .eql 5 (.tmp 0) (.const (.int .u8 8)) 5) none,
        .run (.fieldAddr 39 (.tmp (far + 6)) 4) (some ((.tmp 0), true)),
        .run (.load 2 (.tmp 0)) (some ((.tmp 1), true)),
        .run (.load 2 (.tmp (far + 3))) (some ((.tmp 2), true)),
        .run (.binOp .eql 2 (.tmp 1) (.tmp 0) 2) (some ((.tmp 3), true)),
        .run (.pick (.tmp 4) (.tmp 0) (.const (.bool false))) none] [(16, 0), (25, 0), (24, 1), (23, 2), (22, 3), (21, 4), (20, 5), (19, 5), (18, 6), (17, 7)]) (
      .cond (.tmp 16) (
        .seq (
        .reg [.get 5,
          .run (.store 3 (.tmp (far + 4)) (.tmp 0)) none] [(26, 1)]) (
        .ret)) (
        .seq (
        .reg [.run (.store 3 (.tmp (far + 4)) (.const (.int .i64 (-1)))) none] []) (
        .ret))))))))) (nx : noRF cx = true) (ny : noRF cy = true) :
    ∃ u H', Yd V O b [.int .i64 k, .agg (x.cells va).toArray] Hc (.bool u) H' ∧ (u = true → Mer.quiet x = true ∧ FrX [b] [] Hc H' ∧ H'.obj b = .loop .ready none n T #[9, 10] cx cy) ∧ (u = false → Mer.quiet x = false ∧ FrX [b, b4] [] Hc H' ∧ Bx H' b4 3 [.int .i64 (if (x.op == 8 && x.n == lock) = true then (k : Int) else -1)] ∧ H'.obj b = .loop .done (some .ret) n T #[9, 10] cx cy) := by
  subst hn
  have key : ∃ v H', Yd V O b [.int .i64 k, .agg (x.cells va).toArray] Hc v H' ∧ ∃ u, v = .bool u ∧ (u = true → Mer.quiet x = true ∧ FrX [b] [] Hc H' ∧ H'.obj b = .loop .ready none Tryd.f70.ntmps T #[9, 10] cx cy) ∧ (u = false → Mer.quiet x = false ∧ FrX [b, b4] [] Hc H' ∧ Bx H' b4 3 [.int .i64 (if (x.op == 8 && x.n == lock) = true then (k : Int) else -1)] ∧ H'.obj b = .loop .done (some .ret) Tryd.f70.ntmps T #[9, 10] cx cy) := by
    refine Yd.round (l1 := [(10, .agg (x.cells va).toArray), (9, .int .i64 k), (3, .pointer (some ⟨b3, 0, none⟩)), (4, .pointer (some ⟨b4, 0, none⟩))]) ho hT ?_ hx hy nx ny ?_
    · show (if 9 < Tryd.f70.ntmps then if 10 < Tryd.f70.ntmps then _ else _ else _) = _
      rw [if_pos (by decide +kernel), if_pos (by decide +kernel)]; rfl
    refine zSeq ?_
    (repeat first | refine zReg ?_ | refine zNil rfl ?_ | refine zAsg rfl ?_)
    refine zAlc E_api_Ins zero39 fun H1 f1 b1 n1 => ?_
    refine zStB b1 rfl rfl E_api_Ins (by rw [te_api_Ins_size]; rfl) (by have := hva.oneCell; simp [Value.cells, Ins.cells, Value.oneCell'] at this ⊢; exact this) (by simp [Value.cells, Ins.cells]) (by simp [Value.cells, Ins.cells]) fun H2 f2 b2 n2 => ?_
    have b2' : Bx H2 Hc.next 39 (x.cells va) := b2
    have f12 : Fr Hc H2 := f1.young f2 (by simp) (by simp)
    refine WL.nil ⟨_, rfl, rfl, _, _, _, _, _, _, (f12.2.1 b hb).trans ho, ?_⟩
    have hxb : Hc.next ≠ b := by omega
    have b3' := (h3.fr f12).frX (FrX.put (o := .loop .busy none Tryd.f70.ntmps T #[9, 10] cx cy)) (b := b3) (bs := [b]) (by simpa using hb3)
    have b4' := (h4.fr f12).frX (FrX.put (o := .loop .busy none Tryd.f70.ntmps T #[9, 10] cx cy)) (b := b4) (bs := [b]) (by simpa using hb4)
    have b5' := b2'.frX (FrX.put (o := .loop .busy none Tryd.f70.ntmps T #[9, 10] cx cy)) (b := Hc.next) (bs := [b]) (by simpa using hxb)
    have hgb := (hg.fr f12).frX (FrX.put (b := b) (o := .loop .busy none Tryd.f70.ntmps T #[9, 10] cx cy)) (by simp; omega)
    generalize hHb : H2.put b (.loop .busy none Tryd.f70.ntmps T #[9, 10] cx cy) = Hb at *
    have fb : FrX [b] [] Hc Hb := by rw [← hHb]; exact (f12.x _ _).trans .put (fun b hb _ => hb) (fun b hb _ => hb)
    have hob : Hb.obj b = .loop .busy none Tryd.f70.ntmps T #[9, 10] cx cy := by rw [← hHb]; simp
    have ha1 : aIndex V.E 150 (.pointer (some ⟨1, 0, none⟩)) (.int .u8 x.op) = some (.pointer (some ⟨1, 0 + x.op.toNat * 1, none⟩)) := by
      simp only [aIndex, E_quiet, E_bool]
      rw [if_pos ⟨by omega, by omega⟩]
    have hr : Rd Hb 1 0 14 quietC := Rd.ro hgb.1 hgb.2
    have hl1 : aLoad V.E Hb 4 (.pointer (some ⟨1, 0 + x.op.toNat * 1, none⟩)) = some (.bool (Mer.quiet x)) := by
      rw [Nat.mul_one]; exact (hr.at1 (quietC_at x hop)).load1 E_bool rfl
    cases c1 : Mer.quiet x
    case true =>
      rw [c1] at hl1
      (repeat first | refine zSeq ?_ | refine zReg ?_ | refine zBlk ?_ | refine zFld (f := 0) rfl O_api_Ins_Op ?_ | refine zLd (ty := 5) rfl (Bx.ld (by assumption) (by rfl) E_uint8 rfl) ?_)
      refine zIdx global1 rfl ha1 ?_
      refine zLd rfl hl1 ?_
      (repeat first | refine zSkp ?_ | refine zNil rfl ?_ | refine zT rfl rfl ?_)
      refine ⟨_, _, _, _, _, _, _, hob, true, rfl, fun _ => ⟨rfl, fb.trans .put (by simp) (by simp), by simp [Ex.out, Ex.jump]⟩, fun h => (by cases h)⟩
    rw [c1] at hl1
    have fin : ∀ {H5 : AH} {w : Int}, FrX [b4] [] Hb H5 → Bx H5 b4 3 (splice [c4] 0 [.int .i64 w]) → w = (if (x.op == 8 && x.n == lock) = true then (k : Int) else -1) →
        H5.obj b = .loop .busy none Tryd.f70.ntmps T #[9, 10] cx cy ∧ FrX [b, b4] [] Hc (H5.put b (.loop .done (some .ret) Tryd.f70.ntmps T #[9, 10] cx cy)) ∧ Bx (H5.put b (.loop .done (some .ret) Tryd.f70.ntmps T #[9, 10] cx cy)) b4 3 [.int .i64 (if (x.op == 8 && x.n == lock) = true then (k : Int) else -1)] := fun {H5 w} f5 b5 hw => by
      subst hw
      have f6 : FrX [b, b4] [] Hc H5 := (fb.sub (by simp) (by simp)).trans f5 (by simp) (by simp)
      have b5'' : Bx H5 b4 3 [.int .i64 (if (x.op == 8 && x.n == lock) = true then (k : Int) else -1)] := b5
      exact ⟨(f5.2.1 b (Nat.lt_of_lt_of_le hb fb.1) (by simpa using Ne.symm hb4)).trans hob, f6.trans .put (by simp) (by simp), b5''.frX .put (by simpa using hb4)⟩
    cases c2 : x.op == 8
    · (repeat first | refine zSeq ?_ | refine zReg ?_ | refine zBlk ?_ | refine zFld (f := 0) rfl O_api_Ins_Op ?_ | refine zLd (ty := 5) rfl (Bx.ld (by assumption) (by rfl) E_uint8 rfl) ?_)
      refine zIdx global1 rfl ha1 ?_
      refine zLd rfl hl1 ?_
      (repeat first | refine zSeq ?_ | refine zReg ?_ | refine zNil rfl ?_ | refine zOff rfl (by assumption) ?_ | refine zPF rfl (by assumption) rfl ?_ | refine zEql rfl rfl ?_ | refine zF rfl rfl ?_ | refine zFld (f := 0) rfl O_api_Ins_Op ?_ | refine zLd (ty := 5) rfl (Bx.ld (by assumption) (by rfl) E_uint8 rfl) ?_)
      refine zStB b4' rfl rfl E_int rfl rfl (by simp [Value.cells]) (by simp [Value.cells]) fun H5 f5 b5 n5 => ?_
      (repeat first | refine zNil rfl ?_)
      obtain ⟨q1, q2, q3⟩ := fin f5 b5 (by rw [c2]; rfl)
      rw [c2] at q3
      exact WP.ret ⟨_, _, _, _, _, _, _, q1, false, rfl, fun h => (by cases h), fun _ => ⟨rfl, q2, q3, by simp [Ex.out, Ex.jump]⟩⟩
    · cases c3 : x.n == lock
      · (repeat first | refine zSeq ?_ | refine zReg ?_ | refine zBlk ?_ | refine zFld (f := 0) rfl O_api_Ins_Op ?_ | refine zLd (ty := 5) rfl (Bx.ld (by assumption) (by rfl) E_uint8 rfl) ?_)
        refine zIdx global1 rfl ha1 ?_
        refine zLd rfl hl1 ?_
        (repeat first | refine zSeq ?_ | refine zReg ?_ | refine zNil rfl ?_ | refine zOn rfl (by assumption) ?_ | refine zPT rfl (by assumption) rfl ?_ | refine zEql rfl rfl ?_ | refine zF rfl rfl ?_ | refine zF rfl (by assumption) ?_ | refine zFld (f := 0) rfl O_api_Ins_Op ?_ | refine zFld (f := 4) rfl O_api_Ins_N ?_ | refine zLd (ty := 2) rfl (Bx.ld (by assumption) (by rfl) E_int64 rfl) ?_ | refine zLd (ty := 5) rfl (Bx.ld (by assumption) (by rfl) E_uint8 rfl) ?_)
        refine zStB b4' rfl rfl E_int rfl rfl (by simp [Value.cells]) (by simp [Value.cells]) fun H5 f5 b5 n5 => ?_
        (repeat first | refine zNil rfl ?_)
        obtain ⟨q1, q2, q3⟩ := fin f5 b5 (by rw [c2, c3]; rfl)
        rw [c2, c3] at q3
        exact WP.ret ⟨_, _, _, _, _, _, _, q1, false, rfl, fun h => (by cases h), fun _ => ⟨rfl, q2, q3, by simp [Ex.out, Ex.jump]⟩⟩
      · (repeat first | refine zSeq ?_ | refine zReg ?_ | refine zBlk ?_ | refine zFld (f := 0) rfl O_api_Ins_Op ?_ | refine zLd (ty := 5) rfl (Bx.ld (by assumption) (by rfl) E_uint8 rfl) ?_)
        refine zIdx global1 rfl ha1 ?_
        refine zLd rfl hl1 ?_
        (repeat first | refine zSeq ?_ | refine zReg ?_ | refine zNil rfl ?_ | refine zGet rfl ?_ | refine zOn rfl (by assumption) ?_ | refine zPT rfl (by assumption) rfl ?_ | refine zEql rfl rfl ?_ | refine zF rfl rfl ?_ | refine zT rfl (by assumption) ?_ | refine zFld (f := 0) rfl O_api_Ins_Op ?_ | refine zFld (f := 4) rfl O_api_Ins_N ?_ | refine zLd (ty := 2) rfl (Bx.ld (by assumption) (by rfl) E_int64 rfl) ?_ | refine zLd (ty := 5) rfl (Bx.ld (by assumption) (by rfl) E_uint8 rfl) ?_)
        refine zStB b4' rfl rfl E_int rfl rfl (by simp [Value.cells]) (by simp [Value.cells]) fun H5 f5 b5 n5 => ?_
        (repeat first | refine zNil rfl ?_)
        obtain ⟨q1, q2, q3⟩ := fin f5 b5 (by rw [c2, c3]; rfl)
        rw [c2, c3] at q3
        exact WP.ret ⟨_, _, _, _, _, _, _, q1, false, rfl, fun h => (by cases h), fun _ => ⟨rfl, q2, q3, by simp [Ex.out, Ex.jump]⟩⟩
  obtain ⟨v, H', h, u, rfl, h1, h2⟩ := key
  exact ⟨u, H', h, h1, h2⟩
end Go.Proofs.YtfhmdhndmlinkaaDoor.U

/-
  Contracts of merge: gives, the walk.
-/
namespace Go.Mer
open Go.Ev
theorem quiet_not8 {x : Ins} (h : quiet x = true) : x.op ≠ 8 := fun e => by simp [quiet, e] at h
theorem gives_all {l : List Ins} {lock : Int} (h : ∀ j (h : j < l.length), quiet l[j] = true) : gives l lock = none := by
  cases e : gives l lock with
  | none => rfl
  | some k => obtain ⟨hk, h1, _⟩ := gives_some e; exact absurd h1 (quiet_not8 (h k hk))
theorem gives_at {l : List Ins} {lock : Int} {k : Nat} (hk : k < l.length) (hq : quiet l[k] = false) (h : ∀ j (hj : j < l.length), k < j → quiet l[j] = true) : gives l lock = if (l[k].op == 8 && l[k].n == lock) = true then some k else none := by
  cases e : gives l lock with
  | none =>
    split
    · rename_i c
      rw [Bool.and_eq_true, beq_iff_eq, beq_iff_eq] at c
      exact absurd (gives_none e k hk c.1 c.2 fun j hj hl => h j hl hj) id
    · rfl
  | some m =>
    obtain ⟨hm, h1, h2, h3⟩ := gives_some e
    have : m = k := by
      rcases Nat.lt_trichotomy m k with h4 | h4 | h4
      · rw [h3 k h4 hk] at hq; cases hq
      · exact h4
      · exact absurd h1 (quiet_not8 (h m hm h4))
    subst this
    rw [if_pos (by rw [h1, h2]; simp)]
def givesI (l : List Ins) (lock : Int) : Int := match gives l lock with
  | some k => k
  | none => -1
end Go.Mer
namespace Go.Proofs.YtfhmdhndmlinkaaDoor.U
open Go Go.Ev
attribute [local irreducible] WL WP WH W
attribute [local irreducible] V
variable {O : Orc} {H : AH}
set_option maxHeartbeats 1000000 in
theorem gives_c (hO : NoO O) (hg : GM H) {A : Av} {v : Value} {l : List Ins} (hv : Els 6 InsR A H v l) (hL : l.length ≤ 1000000) (hop : ∀ i ∈ l, 0 ≤ i.op ∧ i.op < 14) (lock : Int) :
    ∃ u H', Lc V O F_merge_gives [v, .int .i64 lock] H u H' ∧ (u = .int .i64 (Mer.givesI l lock) ∧ Fr H H') := by
  refine Lc.merge_gives (R := fun u H' => u = .int .i64 (Mer.givesI l lock) ∧ Fr H H') (hO _ _ _ (by decide) (by decide) (by decide) (by decide)) (Nat.le_of_ble_eq_true rfl) (by kernel_rfl) ?_
  unfold P_merge_gives
  refine zSeq ?_
  refine zReg ?_
  refine zBox rfl (fun _ => rfl) fun H1 f1 b1 n1 => ?_
  refine zAlc E_int rfl fun H2 f2 b2 n2 => ?_
  replace b1 := b1.fr f2
  have f12 := f1.trans f2
  obtain ⟨_, H3, hc3, rfl, f3, bc⟩ := backward_c (H := H2) hO v
  have e3 : v.cells.toList = [v] := by obtain ⟨_, ⟨_, ⟨rfl, _⟩ | ⟨b, off, cap, rfl, _⟩⟩, _⟩ := hv <;> rfl
  rw [e3] at bc
  replace b1 := b1.fr f3
  replace b2 := b2.fr f3
  have b2' : Bx H3 H1.next 3 [.int .i64 0] := b2
  have b1' : Bx H3 H.next 2 [.int .i64 lock] := b1
  have f13 := f12.trans f3
  have hv3 := hv.fr InsR.m f13
  have hg3 := hg.fr f13
  have hn3 := f3.1
  have hc2 : H2.next < H3.next := bc.1
  (repeat first | refine zSeq ?_ | refine zReg ?_ | refine zNil rfl ?_ | refine zGet rfl ?_)
  refine WL.call rfl rfl is_slices_Backward_s_api_Ins_api_Ins hc3 ?_
  (repeat first | refine zNil rfl ?_)
  refine WP.block (WP.rfunc rfl is_slices_Backward_s_api_Ins_api_Ins__q1 fun T cx cy hT hx hy nx ny => ?_)
  have fa := Fr.alloc H3 (.loop .ready none Tryd.f70.ntmps T #[9, 10] cx cy)
  have hnb : H3.next < (H3.alloc (.loop .ready none Tryd.f70.ntmps T #[9, 10] cx cy)).next := by simp
  have hob : (H3.alloc (.loop .ready none Tryd.f70.ntmps T #[9, 10] cx cy)).obj H3.next = .loop .ready none Tryd.f70.ntmps T #[9, 10] cx cy := by simp
  have hvA : Els 6 InsR (.box H3.next) (H3.alloc (.loop .ready none Tryd.f70.ntmps T #[9, 10] cx cy)) v l := (hv3.gr InsR.m (B := .box H3.next) ⟨fun x hx => .inr (by simp [Av.box] at hx; omega), fun x hx => (by simp [Av.box] at hx)⟩).fr InsR.m fa
  have hbx0 := bc.fr fa
  have b1a := b1'.fr fa
  have b2a := b2'.fr fa
  have hga := hg3.fr fa
  have hT' : Has T [(3, .pointer (some ⟨H.next, 0, none⟩)), (4, .pointer (some ⟨H1.next, 0, none⟩))] := fun t v h => hT t v (by
    simp only [Ev.look] at h ⊢
    split at h
    · rename_i e; subst e; simpa using h
    · split at h
      · rename_i e; subst e; simpa using h
      · cases h)
  generalize H3.alloc (.loop .ready none Tryd.f70.ntmps T #[9, 10] cx cy) = H0 at *
  have h1b : H.next ≠ H3.next := by omega
  have h2b : H1.next ≠ H3.next := by omega
  have h4b : H2.next ≠ H3.next := by omega
  obtain ⟨w, H4, hit, hend⟩ := backward_it (H := H0) (A := .box H3.next) (b := H3.next) (c := H2.next) (v := v) (l := l) hO hL
    (fun k Hc => Hc.obj H3.next = .loop .ready none Tryd.f70.ntmps T #[9, 10] cx cy ∧ FrX [H3.next] [] H0 Hc ∧ ∀ j (h : j < l.length), k ≤ j → Mer.quiet l[j] = true)
    (fun Hc => Hc.obj H3.next = .loop .done (some .ret) Tryd.f70.ntmps T #[9, 10] cx cy ∧ FrX [H3.next, H1.next] [] H0 Hc ∧ Bx Hc H1.next 3 [.int .i64 (Mer.givesI l lock)])
    ⟨hob, .refl _ _ _, fun j h h2 => absurd h (by omega)⟩ (fun k Hc h => hbx0.frX h.2.1 (by simpa using h4b)) (fun k Hc h => hvA.frX InsR.m h.2.1) (fun Hz => hv.len E_s_api_Ins) (fun k hk Hc ⟨q1, q2, q3⟩ va hva => by
      obtain ⟨u, H', y1, y2, y3⟩ := givesRound (k := k) (x := l[k]) (lock := lock) rfl q1 hT' (b1a.frX q2 (by simpa using h1b)) (b2a.frX q2 (by simpa using h2b)) h1b h2b (Nat.lt_of_lt_of_le hnb q2.1) (hga.frX q2 (by have := hg.1; simp; omega)) (by have := hg.1; omega) (hop _ (List.getElem_mem hk)) hva hx hy nx ny
      refine ⟨u, H', y1, fun hu => ?_, fun hu => ?_⟩
      · obtain ⟨z1, z2, z3⟩ := y2 hu
        refine ⟨z3, q2.trans z2 (fun b hb _ => hb) (fun b hb _ => hb), fun j hj hjk => ?_⟩
        by_cases e : j = k
        · subst e; exact z1
        · exact q3 j hj (by omega)
      · obtain ⟨z1, z2, z3, z4⟩ := y3 hu
        refine ⟨z4, (q2.sub (by simp) (by simp)).trans z2 (fun b hb _ => hb) (fun b hb _ => hb), ?_⟩
        have : Mer.givesI l lock = if (l[k].op == 8 && l[k].n == lock) = true then (k : Int) else -1 := by
          unfold Mer.givesI
          rw [Mer.gives_at hk z1 fun j hj hkj => q3 j hj hkj]
          split <;> (split at * <;> first | rfl | (rename_i e1 e2; simp_all))
        rw [this]; exact z3)
  rcases hend with ⟨q1, q2, q3⟩ | ⟨q1, q2, q3⟩
  · refine ⟨w, H4, _, _, _, _, _, _, _, .normal, hit, q1, by simp, rfl, ?_⟩
    have fz : Fr H3 (H4.put H3.next .dead) := fa.young (q2.trans .put (fun b hb _ => hb) (fun b hb _ => hb)) (by simp) (by simp)
    generalize H4.put H3.next .dead = Hz at *
    have bz := b2'.fr fz
    have hres : Mer.givesI l lock = -1 := by unfold Mer.givesI; rw [Mer.gives_all fun j hj => q3 j hj (Nat.zero_le _)]
    rw [hres]
    (repeat first | refine zSeq ?_ | refine zReg ?_)
    refine zStB bz rfl rfl E_int rfl rfl (by simp [Value.cells]) (by simp [Value.cells]) fun H5 f5 b5 n5 => ?_
    (repeat first | refine zNil rfl ?_)
    exact WP.ret ⟨.inr rfl, _, resL_cell rfl (b5.ld rfl E_int rfl) rfl, rfl, (f13.trans fz).young f5 (by simp; omega) (by simp)⟩
  · refine ⟨w, H4, _, _, _, _, _, _, _, .ret, hit, q1, by simp, rfl, ?_⟩
    have b4z : Bx (H4.put H3.next .dead) H1.next 3 [.int .i64 (Mer.givesI l lock)] := q3.frX .put (by simpa using h2b)
    refine ⟨.inr rfl, _, resL_cell rfl (b4z.ld rfl E_int rfl) rfl, rfl, ?_⟩
    have fx : FrX [H3.next, H1.next] [] H3 (H4.put H3.next .dead) := ((fa.x _ _).trans q2 (fun b hb _ => hb) (fun b hb _ => hb)).trans .put (fun b hb _ => by simp at hb; simp [hb]) (by simp)
    exact f13.young fx (by simp; omega) (by simp)
end Go.Proofs.YtfhmdhndmlinkaaDoor.U

/-
  Slices that may be sliced again.
-/
namespace Go.Ev
def Slb (e : TypeId) (A : Av) (H : AH) (v : Value) : Prop :=
  v = .slice none 0 0 ∨ ∃ b off n cap, v = .slice (some ⟨b, off, none⟩) n cap ∧ ((n ≤ cap ∧ cap < unk) ∨ (cap = unk ∧ b ∉ A.bs ∧ ∃ cells st g w, b < H.next ∧ H.obj b = .row e cells st g w ∧ (st = .exact ∨ st = .ro ∨ (g < H.next ∧ g ∉ A.gs ∧ H.ver g = w))))
theorem Slb.frX {e : TypeId} {A : Av} {H H' : AH} {v : Value} (h : Slb e A H v) (k : FrX A.bs A.gs H H') : Slb e A H' v := by
  rcases h with h | ⟨b, off, n, cap, rfl, h | ⟨h1, h2, cells, st, g, w, h3, h4, h5⟩⟩
  · exact .inl h
  · exact .inr ⟨b, off, n, cap, rfl, .inl h⟩
  · refine .inr ⟨b, off, n, cap, rfl, .inr ⟨h1, h2, cells, st, g, w, Nat.lt_of_lt_of_le h3 k.1, (k.2.1 b h3 h2).trans h4, ?_⟩⟩
    rcases h5 with h5 | h5 | ⟨h5, h6, h7⟩
    · exact .inl h5
    · exact .inr (.inl h5)
    · exact .inr (.inr ⟨Nat.lt_of_lt_of_le h5 k.1, h6, (k.2.2 g h5 h6).trans h7⟩)
theorem Slb.gr {e : TypeId} {A B : Av} {H : AH} {v : Value} (h : Slb e A H v) (k : A.Gr B H.next) : Slb e B H v := by
  rcases h with h | ⟨b, off, n, cap, rfl, h | ⟨h1, h2, cells, st, g, w, h3, h4, h5⟩⟩
  · exact .inl h
  · exact .inr ⟨b, off, n, cap, rfl, .inl h⟩
  · refine .inr ⟨b, off, n, cap, rfl, .inr ⟨h1, fun hb => (k.1 b hb).elim h2 (fun h => by omega), cells, st, g, w, h3, h4, ?_⟩⟩
    rcases h5 with h5 | h5 | ⟨h5, h6, h7⟩
    · exact .inl h5
    · exact .inr (.inl h5)
    · exact .inr (.inr ⟨h5, fun hb => (k.2 g hb).elim h6 (fun h => by omega), h7⟩)
theorem OwV.slb {α : Type} {e : TypeId} {sz : Nat} {R : Rq α} {B : Av} {H : AH} {n0 : Nat} {v : Value} {xs : List α} {o : Option (Nat × Nat)} (h : OwV e sz R B H n0 v xs o) (hl : xs.length < unk) : Slb e B H v := by
  rcases h with ⟨⟨cs, ⟨_, _, ⟨rfl, _, _⟩ | ⟨b, g, rfl, h3, h4, h5, h6, rfl, h7, h8⟩⟩, _⟩, q1, q2⟩ | ⟨_, b, cs, rfl, _⟩
  · exact .inl rfl
  · exact .inr ⟨b, 0, _, _, rfl, .inr ⟨rfl, q1 b (by simp [obs]), cs, .loose, g, _, h5, h7, .inr (.inr ⟨h6, q2 g (by simp [ogs]), rfl⟩)⟩⟩
  · exact .inr ⟨b, 0, _, _, rfl, .inl ⟨Nat.le_refl _, hl⟩⟩
theorem Els.slice1 {α : Type} {sz : Nat} {R : Rq α} {A : Av} {H : AH} {v : Value} {xs : List α} (h : Els sz R A H v xs) {V : Env} {t e : TypeId} {s b : Nat} {z : Value} {te : TI} (ht : V.E t = some ⟨.slice e, s, b, z⟩) (he : V.E e = some te) (hz : te.size = sz) (hp : 0 < sz) (hs : Slb e A H v) {k : Nat} (hk : k < xs.length) :
    ∃ u, aSlice V.E H t v (some (.int .i64 k)) (some (.int .i64 ((k : Int) + 1))) none = some u ∧ Els sz R A H u [xs[k]] := by
  subst hz
  obtain ⟨cs, ⟨hc, ⟨rfl, h0⟩ | ⟨b, off, cap, rfl, hr⟩⟩, hR⟩ := h
  · omega
  have hrd := hr (by omega)
  have hkk : (k + 1) * te.size ≤ xs.length * te.size := Nat.mul_le_mul_right _ hk
  have hk1 : (k + 1) * te.size = k * te.size + te.size := by rw [Nat.add_mul, Nat.one_mul]
  have hsub := hrd.sub (k * te.size) te.size (by omega)
  have hel : ∀ cap', Els te.size R A H (.slice (some ⟨b, off + k * te.size, none⟩) 1 cap') [xs[k]] := fun cap' => by
    refine ⟨(cs.drop (k * te.size)).take te.size, ⟨by rw [hsub.rd.len]; simp, .inr ⟨b, off + k * te.size, cap', rfl, fun _ => by rw [List.length_singleton, Nat.one_mul]; exact hsub⟩⟩, fun i hi => ?_⟩
    have : i = 0 := by simp at hi; omega
    subst this
    simp only [Nat.zero_mul, List.drop_zero, List.getElem_cons_zero, List.take_take, Nat.min_self]
    exact hR k hk
  have hint : ((k : Int) + 1) = ((k + 1 : Nat) : Int) := by omega
  rcases hs with hs | ⟨b', off', n', cap', hv, hs | ⟨h1, h2, cells, st, g, w, h3, h4, h5⟩⟩
  · cases hs
  · cases hv
    obtain ⟨q1, q2⟩ := hs
    refine ⟨.slice (some ⟨b, off + k * te.size, none⟩) 1 (cap - k), ?_, hel _⟩
    simp only [aSlice, ht, he, Option.isSome_none, Bool.false_and, Bool.false_eq_true, if_false]
    rw [if_neg (by unfold unk at q2 ⊢; omega), hint]
    simp only [optBound, bound_nat (kd := .i64) (show k + 1 ≤ cap by omega), bound_nat (kd := .i64) (show k ≤ k + 1 by omega)]
    rw [if_neg (by omega), show k + 1 - k = 1 by omega]
  · cases hv
    subst h1
    have hro : H.rowOf b e = some cells := by
      unfold AH.rowOf
      rw [AH.lo_lt h3, h4]
      rcases h5 with rfl | rfl | ⟨h5, h6, h7⟩
      · simp [AH.alive]
      · simp [AH.alive]
      · cases st <;> simp [AH.alive, h7]
    have hre : xs.length ≤ reach cells off te.size xs.length := Nat.le_max_left _ _
    have key : aSlice V.E H t (.slice (some ⟨b, off, none⟩) xs.length unk) (some (.int .i64 k)) (some (.int .i64 ((k : Int) + 1))) none = some (if k = 0 then .slice (some ⟨b, off, none⟩) (k + 1) unk else .slice (some ⟨b, off + k * te.size, none⟩) (k + 1 - k) unk) := by
      simp only [aSlice, ht, he, Option.isSome_none, Bool.false_and, Bool.false_eq_true, if_false, if_true]
      rw [if_neg (by omega), hro, hint]
      simp only [optBound, bound_nat (kd := .i64) (show k + 1 ≤ reach cells off te.size xs.length by omega), bound_nat (kd := .i64) (show k ≤ k + 1 by omega)]
      split <;> rfl
    refine ⟨_, key, ?_⟩
    by_cases hk0 : k = 0
    · subst hk0
      rw [if_pos rfl]
      have := hel unk
      rwa [Nat.zero_mul, Nat.add_zero] at this
    · rw [if_neg hk0, show k + 1 - k = 1 by omega]; exact hel unk
def BlockS : Rq Block := fun A H cs b => BlockR A H cs b ∧ ∃ vc, cs[1]? = some vc ∧ Slb 39 A H vc
theorem BlockS.m : MonoF BlockS := ⟨fun k ⟨h, vc, h1, h2⟩ => ⟨BlockR.m.frX k h, vc, h1, h2.frX k⟩, fun k ⟨h, vc, h1, h2⟩ => ⟨BlockR.m.gr k h, vc, h1, h2.gr k⟩⟩
theorem BlockS.one {A : Av} {H : AH} {cs : List Value} {a : Block} (h : BlockS A H cs a) : cs.all Value.oneCell' = true ∧ cs.length = 4 := BlockR.one h.1
theorem Els.imp {α : Type} {sz : Nat} {R S : Rq α} {A : Av} {H : AH} {v : Value} {xs : List α} (h : Els sz R A H v xs) (k : ∀ {cs a}, R A H cs a → S A H cs a) : Els sz S A H v xs := let ⟨cs, h1, h2⟩ := h; ⟨cs, h1, fun i hi => k (h2 i hi)⟩
end Go.Ev

/-
  Contracts of merge: a block.
-/
namespace Go.Proofs.YtfhmdhndmlinkaaDoor.U
open Go Go.Ev
attribute [local irreducible] WL WP WH W
theorem build34 {a a' : Option Addr} {n c n' c' : Nat} : aBuild V.E 34 [(2, .slice a n c), (3, .slice a' n' c')] = some (.agg #[.slice none 0 0, .slice none 0 0, .slice a n c, .slice a' n' c']) := by kernel_rfl
theorem build50 {r : Int} {a : Option Addr} {n c : Nat} : aBuild V.E 50 [(0, .int .i64 r), (1, .slice a n c)] = some (.agg #[.int .i64 r, .slice a n c]) := by kernel_rfl
theorem zero50 : te_api_Phi.zv.cells.toList = [.int .i64 0, .slice none 0 0] := by kernel_rfl
theorem fill50 {r : Int} {a : Option Addr} {n c : Nat} : afill (fun i => some (i * te_api_Phi.size, te_api_Phi.size)) (azeros te_api_Phi.zv.cells.toList 1) [(0, .agg #[.int .i64 r, .slice a n c])] = some [.int .i64 r, .slice a n c] := by kernel_rfl
theorem fill39 {a0 a1 a2 a3 a4 a5 : Value} : afill (fun i => some (i * te_api_Ins.size, te_api_Ins.size)) (azeros te_api_Ins.zv.cells.toList 1) [(0, .agg #[a0, a1, a2, a3, a4, a5])] = some [a0, a1, a2, a3, a4, a5] := by kernel_rfl
attribute [local irreducible] V
variable {O : Orc} {H : AH}
theorem clone2_c (hO : NoO O) {A : Av} {v : Value} {l : List Int} (hv : IntsR A H v l) (hL : l.length ≤ 100000) :
    ∃ a n c H', Lc V O F_slices_Clone_s_int_int [v] H (.slice a n c) H' ∧ Fr H H' ∧ IntsR (.old H.next) H' (.slice a n c) l := by
  obtain ⟨u, H', h, hf, hu⟩ := clone_c hO hv hL
  have hr := hu _ Av.old_lt
  obtain ⟨a, n, c, rfl⟩ := hr.isSl
  exact ⟨a, n, c, H', h, hf, hr⟩
structure SmallB (b : Block) : Prop where
  code : b.code.length ≤ 100000
  phis : b.phis.length ≤ 100000
  frm : b.frm.length ≤ 100000
  to : b.to.length ≤ 100000
  pargs : ∀ p ∈ b.phis, p.args.length ≤ 100000
  cargs : ∀ i ∈ b.code, i.args.length ≤ 100000
theorem foldl_step_len (l : List Ins) : ∀ acc : List Ins, (l.foldl Mer.step acc).length ≤ acc.length + l.length := by
  induction l with
  | nil => intro acc; simp
  | cons i l ih =>
    intro acc
    rw [List.foldl_cons]
    have h1 : (Mer.step acc i).length ≤ acc.length + 1 := by
      unfold Mer.step
      split
      · split
        · have := List.length_eraseIdx_le acc (by assumption); omega
        · simp
      · simp
    have := ih (Mer.step acc i)
    simp only [List.length_cons]; omega
theorem foldl_step_mem (l : List Ins) : ∀ acc : List Ins, ∀ i ∈ l.foldl Mer.step acc, i ∈ acc ∨ i ∈ l := by
  induction l with
  | nil => intro acc i h; exact .inl h
  | cons x l ih =>
    intro acc i h
    rw [List.foldl_cons] at h
    rcases ih _ i h with h | h
    · unfold Mer.step at h
      split at h
      · split at h
        · exact .inl (List.mem_of_mem_eraseIdx h)
        · rcases List.mem_append.1 h with h | h
          · exact .inl h
          · exact .inr (by simp at h; simp [h])
      · rcases List.mem_append.1 h with h | h
        · exact .inl h
        · exact .inr (by simp at h; simp [h])
    · exact .inr (List.mem_cons_of_mem _ h)
theorem step_ne {acc : List Ins} {i : Ins} (h : i.op ≠ 7) : Mer.step acc i = acc ++ [i] := by
  unfold Mer.step; rw [if_neg h]
theorem step_no {acc : List Ins} {i : Ins} (h : Mer.givesI acc i.n < 0) : Mer.step acc i = acc ++ [i] := by
  unfold Mer.step
  unfold Mer.givesI at h
  split
  · split
    · rename_i hx; rw [hx] at h; simp at h; omega
    · rfl
  · rfl
theorem step_yes {acc : List Ins} {i : Ins} (h7 : i.op = 7) (h : 0 ≤ Mer.givesI acc i.n) : ∃ k : Nat, k < acc.length ∧ Mer.givesI acc i.n = k ∧ Mer.step acc i = acc.eraseIdx k := by
  unfold Mer.step
  unfold Mer.givesI at h ⊢
  rw [if_pos h7]
  cases hx : Mer.gives acc i.n with
  | none => rw [hx] at h; simp at h
  | some k =>
    obtain ⟨hk, _⟩ := Mer.gives_some hx
    exact ⟨k, hk, rfl, rfl⟩
set_option maxHeartbeats 4000000 in
theorem mblock_c (hO : NoO O) (hg : GM H) {A : Av} {b : Block} {cs : List Value} (hb : BlockR A H cs b) (hsm : SmallB b) (hop : ∀ i ∈ b.code, 0 ≤ i.op ∧ i.op < 14) :
    ∃ u H', Lc V O F_merge_block [.agg cs.toArray] H u H' ∧ (∃ cs' : List Value, u = .agg cs'.toArray ∧ BlockS (.old H.next) H' cs' (Mer.block b) ∧ Fr H H') := by
  obtain ⟨vp, vc, vf, vt, rfl, hp, hc, hf, ht⟩ := hb
  refine Lc.merge_block (R := fun u H' => ∃ cs' : List Value, u = .agg cs'.toArray ∧ BlockS (.old H.next) H' cs' (Mer.block b) ∧ Fr H H') (hO _ _ _ (by decide) (by decide) (by decide) (by decide)) (Nat.le_of_ble_eq_true rfl) (by kernel_rfl) ?_
  unfold P_merge_block
  refine zSeq ?_
  refine zReg ?_
  refine zBox rfl (fun _ => rfl) fun H1 f1 b1 n1 => ?_
  refine zAlc E_api_Block zero34 fun H2 f2 b2 n2 => ?_
  replace b1 := b1.fr f2
  have b1' : Bx H2 H.next 34 [vp, vc, vf, vt] := b1
  have f12 := f1.trans f2
  clear b1 f1 f2
  refine zNil rfl ?_
  refine zSeq ?_
  refine WP.rega ?_
  refine yFld (f := 2) rfl O_api_Block_From ?_
  refine yLd rfl (b1'.ld rfl E_s_int rfl) ?_
  refine yFld (f := 3) rfl O_api_Block_To ?_
  refine yLd rfl (b1'.ld rfl E_s_int rfl) ?_
  refine yAlc E_api_Block zero34 fun H3 f3 b3 n3 => ?_
  have f13 := f12.trans f3
  obtain ⟨fa, fn, fc, H4, hc4, f4, hf4⟩ := clone2_c (H := H3) hO (hf.fr f13) hsm.frm
  have f14 := f13.trans f4
  obtain ⟨ta, tn, tc, H5, hc5, f5, ht5⟩ := clone2_c (H := H4) hO (ht.fr f14) hsm.to
  have f15 := f14.trans f5
  refine WH.call rfl rfl is_slices_Clone_s_int_int hc4 ?_
  refine WH.call rfl rfl is_slices_Clone_s_int_int hc5 ?_
  refine WH.op (op_build rfl build34) ?_
  have b35 := (b3.fr f4).fr f5
  refine yStB b35 rfl rfl E_api_Block (by rw [te_api_Block_size]; rfl) rfl (by simp [Value.cells]) (by simp [Value.cells]) fun H6 f6 b6 n6 => ?_
  have b6' : Bx H6 H2.next 34 [.slice none 0 0, .slice none 0 0, .slice fa fn fc, .slice ta tn tc] := b6
  have hn25 : H2.next ≤ H5.next := (((Fr.refl _).trans f3).trans f4 |>.trans f5).1
  have hbo : H.next ≤ H2.next := f12.1
  have b16 := (((b1'.fr f3).fr f4).fr f5).frX f6 (by simp; omega)
  have b26 := (((b2.fr f3).fr f4).fr f5).frX f6 (by simp; omega)
  have f16 : Fr H H6 := f15.young f6 (by simp; omega) (by simp)
  have hB1 : ∀ {n : Nat}, H2.next < n → (Av.old H3.next).Lt n := fun h => Av.old_lt.mono (by omega)
  have fx6 : FrX (Av.old H3.next).bs (Av.old H3.next).gs H5 H6 := f6.sub (fun b hb => by simp [Av.old] at hb ⊢; omega) (by simp)
  have hf6 : IntsR (Av.old H3.next) H6 (.slice fa fn fc) b.frm := (((hf4.gr (Av.old_gr (hB1 (by omega)))).fr f5).frX fx6)
  have ht6 : IntsR (Av.old H3.next) H6 (.slice ta tn tc) b.to := ((ht5.gr (Av.old_gr (hB1 (by have := f4.1; omega)))).frX fx6)
  refine WH.nil ⟨?_, _, rfl, ?_⟩
  · intro x hx
    rw [List.mem_singleton] at hx
    subst hx
    obtain ⟨q1, q2, q3, rfl⟩ := ht.isSl
    exact .inr ⟨rfl, _, _, _, rfl, rfl, op_load rfl (((b1'.fr f3).fr f4).ld (off := 3) rfl E_s_int rfl), sameV_sl⟩
  have hpH := hp
  have hcH := hc
  have hp6 := hp.fr PhiR.m f16
  have hc6 := hc.fr InsR.m f16
  have hg6 := hg.fr f16
  have hn6 : H2.next < H6.next := b6'.1
  have hn3 : H3.next = H2.next + 1 := by omega
  have hBG : ∀ {n : Nat}, (Av.old H3.next).Gr (.old H.next) n := Av.old_gr (Av.old_lt.mono (by omega))
  generalize hB : Av.old H3.next = B at *
  have hBsub : ∀ {Hx Hy : AH}, FrX [H2.next] [] Hx Hy → FrX B.bs B.gs Hx Hy := fun h => h.sub (fun b hb => by rw [← hB]; simp [Av.old] at hb ⊢; omega) (by simp)
  have hBsub1 : ∀ {Hx Hy : AH}, FrX [H1.next] [] Hx Hy → FrX B.bs B.gs Hx Hy := fun h => h.sub (fun b hb => by rw [← hB]; simp [Av.old] at hb ⊢; omega) (by simp)
  have hBlt : B.Lt H6.next := by
    rw [← hB]; exact Av.old_lt.mono (by omega)
  clear b1' b2 b3 b35 b6 f3 f4 f5 f6 f12 f13 f14 f15 hc4 hc5 hf4 ht5 fx6 hf ht hp hc
  refine WP.seqS (σ := Value × Option (Nat × Nat)) (fun x => [(1, .pointer (some ⟨H.next, 0, none⟩)), (2, .pointer (some ⟨H1.next, 0, none⟩)), (3, .pointer (some ⟨H2.next, 0, none⟩))]) (fun x Hc => FrX [H2.next] [] H6 Hc ∧ Bx Hc H2.next 34 [x.1, .slice none 0 0, .slice fa fn fc, .slice ta tn tc] ∧ OwV 50 2 PhiR B Hc H6.next x.1 b.phis x.2) ?_ ?_
  · have hpl := hp6
    (repeat first | refine zSeq ?_ | refine zReg ?_ | refine zBlk ?_ | refine zNil rfl ?_ | refine zMov rfl ?_ | refine zFld (f := 0) rfl O_api_Block_Phis ?_ | refine zLd (ty := 30) rfl (Bx.ld (by assumption) (by rfl) E_s_api_Phi rfl) ?_ | refine zLen rfl (hpl.len E_s_api_Phi) ?_)
    refine WP.loopH (σ := Nat × Value × Option (Nat × Nat)) (fun x => [(1, .pointer (some ⟨H.next, 0, none⟩)), (2, .pointer (some ⟨H1.next, 0, none⟩)), (3, .pointer (some ⟨H2.next, 0, none⟩)), (17, vp), (18, .int .i64 b.phis.length), (19, .int .i64 x.1)]) (fun x Hc => FrX [H2.next] [] H6 Hc ∧ Bx Hc H2.next 34 [x.2.1, .slice none 0 0, .slice fa fn fc, .slice ta tn tc] ∧ OwV 50 2 PhiR B Hc H6.next x.2.1 (b.phis.take x.1) x.2.2 ∧ x.1 ≤ b.phis.length) (fun x => b.phis.length - x.1) (0, .slice none 0 0, none) ⟨.refl _ _ _, b6', .inl ⟨.nil, by simp [obs], by simp [ogs]⟩, Nat.zero_le _⟩ ⟨rfl, rfl, rfl, rfl, rfl, rfl, trivial⟩ ?_
    rintro ⟨k, pv, o⟩ Hc ⟨hfr, hbx, how, hk⟩
    simp only at hfr hbx how hk ⊢
    rcases Nat.lt_or_ge k b.phis.length with h | h
    case inr =>
      have g1 : decide ((k : Int) < b.phis.length) = false := decide_eq_false (by omega)
      rw [List.take_of_length_le h] at how
      (repeat first | refine zSeq ?_ | refine zReg ?_ | refine zExt ?_ | refine zNil rfl ?_ | refine zLss rfl rfl ?_ | refine zF rfl (by assumption) ?_)
      exact ⟨(pv, o), ⟨hfr, hbx, how⟩, rfl, rfl, rfl, trivial⟩
    have g1 : decide ((k : Int) < b.phis.length) = true := decide_eq_true (by omega)
    have frH : Fr H Hc := f16.young hfr (by simp; omega) (by simp)
    have hpc : Els 2 PhiR A Hc vp b.phis := by
      exact hpH.fr PhiR.m frH
    obtain ⟨bb, off, cs, ha1, hrd, va, rfl, hva⟩ := hpc.at E_s_api_Phi E_api_Phi te_api_Phi_size (kd := .i64) h
    have hl1 := hrd.loadN (V := V) E_api_Phi te_api_Phi_agg te_api_Phi_size
    have hLa := hsm.pargs b.phis[k] (List.getElem_mem _)
    have hLp := hsm.phis
    generalize hp0 : b.phis[k] = p at *
    (repeat first | refine zSeq ?_ | refine zReg ?_ | refine zBlk ?_ | refine zSkp ?_ | refine zNil rfl ?_ | refine zLss rfl rfl ?_ | refine zT rfl (by assumption) ?_ | refine zIdx rfl rfl ha1 ?_ | refine zLd rfl hl1 ?_)
    refine zAlc E_api_Phi zero50 fun H7 f7 b7 n7 => ?_
    refine zStB b7 rfl rfl E_api_Phi (by rw [te_api_Phi_size]; rfl) (by have := hva.oneCell; simp [Value.cells, Value.oneCell'] at this ⊢; exact this) (by simp [Value.cells]) (by simp [Value.cells]) fun H8 f8 b8 n8 => ?_
    have b8' : Bx H8 Hc.next 50 [.int .i64 p.r, va] := b8
    have f78 : Fr Hc H8 := f7.young f8 (by simp) (by simp)
    have hbx8 := hbx.fr f78
    have how8 := how.fr PhiR.m f78
    obtain ⟨ca, cn, cc, H9, hc9, f9, hcl9⟩ := clone2_c (H := H8) hO (hva.fr f78) hLa
    have how9 := how8.fr PhiR.m f9
    have hbx9 := hbx8.fr f9
    have b9' := b8'.fr f9
    have hn8 := f78.1
    have hn9 := f9.1
    have hn6c := hfr.1
    have hyo := how8.young
    obtain ⟨pv', H10, o', k1, k2, k3, k4⟩ := how9.app1 (V := V) (x := ⟨p.r, p.args⟩) (cx := [.int .i64 p.r, .slice ca cn cc]) PhiR.m (hBlt.mono (by omega)) ⟨_, rfl, hcl9.gr (Av.old_gr ((hBlt.mono (by omega)).and ⟨hyo.2.2.1, hyo.2.2.2⟩))⟩ PhiR.one (by decide) (bytes := 32) (by rw [List.length_take]; have := hsm.phis; omega) (by rw [List.length_take]; have := hsm.phis; omega) (by omega) E_s_api_Phi E_s_api_Phi E_api_Phi te_api_Phi_size te_api_Phi_bytes
    refine zNil rfl ?_
    refine WP.rega ?_
    refine yFld (f := 0) rfl O_api_Block_Phis ?_
    refine yLd rfl (hbx8.ld (off := 0) rfl E_s_api_Phi rfl) ?_
    refine yFld (f := 0) rfl O_api_Phi_R ?_
    refine yLd rfl (b8'.ld (off := 0) rfl E_int rfl) ?_
    refine yFld (f := 1) rfl O_api_Phi_Args ?_
    refine yLd rfl (b8'.ld (off := 1) rfl E_s_int rfl) ?_
    refine WH.call rfl rfl is_slices_Clone_s_int_int hc9 ?_
    refine WH.op (op_build rfl build50) ?_
    refine WH.op (op_buildSlice rfl E_s_api_Phi E_api_Phi (by rw [te_api_Phi_size]; decide) fill50) ?_
    refine WH.op (k1 rfl rfl) ?_
    have hyc := how.young
    have hbx10 := hbx9.frX k3 (fun hb => by have := hyc.1 _ hb; omega)
    have b10 := b9'.frX k3 (fun hb => by have := hyc.2.2.1 _ hb; omega)
    obtain ⟨h1v, h2v⟩ := k2.oneCell PhiR.m
    refine yFld (f := 0) rfl O_api_Block_Phis ?_
    refine yStB hbx10 rfl rfl E_s_api_Phi (by rw [← Array.length_toList, h2v]; rfl) (by rw [h2v]; simp [h1v]) (by rw [h2v]; simp) (by rw [h2v]; simp) fun H11 f11 b11 n11 => ?_
    rw [h2v] at b11
    have b11' : Bx H11 H2.next 34 [pv', .slice none 0 0, .slice fa fn fc, .slice ta tn tc] := b11
    refine WH.nil ⟨?_, _, rfl, ?_⟩
    · intro x hx
      simp only [List.mem_cons, List.not_mem_nil, or_false] at hx
      rcases hx with rfl | rfl
      · obtain ⟨_, hsl, _⟩ := how.els PhiR.m
        obtain ⟨q1, q2, q3, rfl⟩ := hsl.isSl
        exact .inr ⟨rfl, _, _, _, rfl, rfl, op_load rfl ((hbx9.fr (.alloc _ _)).ld (off := 0) rfl E_s_api_Phi rfl), sameV_sl⟩
      · exact .inr ⟨rfl, _, _, _, rfl, rfl, op_load rfl ((b9'.fr (.alloc _ _)).ld (off := 0) rfl E_int rfl), sameV_int⟩
    (repeat first | refine zReg ?_ | refine zNil rfl ?_ | refine zAdd rfl rfl (by omega) ?_)
    have hfin : FrX [H2.next] [] H6 H11 := ((hfr.trans ((f78.trans f9).x [] []) (by simp) (by simp)).trans k3 (fun b hb hlt => absurd (hyc.1 b hb) (by omega)) (fun b hb hlt => absurd (hyc.2.1 b hb) (by omega))).trans f11 (fun b hb _ => hb) (by simp)
    exact ⟨(k + 1, pv', o'), ⟨hfin, b11', by rw [List.take_succ_eq_append_getElem h, hp0]; exact k2.frX PhiR.m (hBsub f11), h⟩, by simp only; omega, rfl, rfl, rfl, rfl, rfl, rfl, trivial⟩
  · rintro ⟨pv, o⟩ Hp ⟨hfrp, hbxp, howp⟩
    simp only at hfrp hbxp howp ⊢
    have hlc := hsm.code
    have f1p : Fr H Hp := f16.young hfrp (by simp; omega) (by simp)
    have b1p := b16.frX hfrp (by simp; omega)
    have b2p := b26.frX hfrp (by simp; omega)
    have hcl := hcH.fr InsR.m f1p
    have hnp := hfrp.1
    refine WP.seqS (σ := Value × Option (Nat × Nat)) (fun x => [(2, .pointer (some ⟨H1.next, 0, none⟩)), (3, .pointer (some ⟨H2.next, 0, none⟩))]) (fun x Hc => FrX [H2.next] [] Hp Hc ∧ Bx Hc H2.next 34 [pv, x.1, .slice fa fn fc, .slice ta tn tc] ∧ OwV 39 6 InsR B Hc Hp.next x.1 (Mer.code b.code) x.2) ?_ ?_
    · (repeat first | refine zSeq ?_ | refine zReg ?_ | refine zBlk ?_ | refine zNil rfl ?_ | refine zMov rfl ?_ | refine zLd (ty := 31) rfl (Bx.ld (by assumption) (by rfl) E_s_api_Ins rfl) ?_ | refine zFld (f := 1) rfl O_api_Block_Code ?_ | refine zLen rfl (hcl.len E_s_api_Ins) ?_)
      refine WP.loopH (σ := Nat × Value × Option (Nat × Nat)) (fun x => [(1, .pointer (some ⟨H.next, 0, none⟩)), (2, .pointer (some ⟨H1.next, 0, none⟩)), (3, .pointer (some ⟨H2.next, 0, none⟩)), (36, vc), (37, .int .i64 b.code.length), (38, .int .i64 x.1)]) (fun x Hc => FrX [H2.next] [] Hp Hc ∧ Bx Hc H2.next 34 [pv, x.2.1, .slice fa fn fc, .slice ta tn tc] ∧ OwV 39 6 InsR B Hc Hp.next x.2.1 ((b.code.take x.1).foldl Mer.step []) x.2.2 ∧ x.1 ≤ b.code.length) (fun x => b.code.length - x.1) (0, .slice none 0 0, none) ⟨.refl _ _ _, hbxp, .inl ⟨.nil, by simp [obs], by simp [ogs]⟩, Nat.zero_le _⟩ ⟨rfl, rfl, rfl, rfl, rfl, rfl, trivial⟩ ?_
      rintro ⟨k, cv, o2⟩ Hc ⟨hfr, hbx, how, hk⟩
      simp only at hfr hbx how hk ⊢
      rcases Nat.lt_or_ge k b.code.length with h | h
      case inr =>
        have g1 : decide ((k : Int) < b.code.length) = false := decide_eq_false (by omega)
        rw [List.take_of_length_le h] at how
        (repeat first | refine zSeq ?_ | refine zReg ?_ | refine zExt ?_ | refine zNil rfl ?_ | refine zLss rfl rfl ?_ | refine zF rfl (by assumption) ?_)
        exact ⟨(cv, o2), ⟨hfr, hbx, how⟩, rfl, rfl, trivial⟩
      have g1 : decide ((k : Int) < b.code.length) = true := decide_eq_true (by omega)
      have frH : Fr H Hc := f1p.young hfr (by simp; omega) (by simp)
      have hpc : Els 6 InsR A Hc vc b.code := hcH.fr InsR.m frH
      obtain ⟨bb, off, cs, ha1, hrd, va, rfl, hva⟩ := hpc.at E_s_api_Ins E_api_Ins te_api_Ins_size (kd := .i64) h
      have hl1 := hrd.loadN (V := V) E_api_Ins te_api_Ins_agg te_api_Ins_size
      have hLa := hsm.cargs b.code[k] (List.getElem_mem _)
      have hst : (b.code.take (k + 1)).foldl Mer.step [] = Mer.step ((b.code.take k).foldl Mer.step []) b.code[k] := by
        rw [List.take_succ_eq_append_getElem h, List.foldl_append]; rfl
      have hal : ((b.code.take k).foldl Mer.step []).length ≤ 100000 := by
        have := foldl_step_len (b.code.take k) []
        rw [List.length_take] at this
        simp only [List.length_nil] at this; omega
      have hao : ∀ i ∈ (b.code.take k).foldl Mer.step [], 0 ≤ i.op ∧ i.op < 14 := fun i hi => (foldl_step_mem _ _ i hi).elim (fun h => by cases h) (fun h => hop i (List.mem_of_mem_take h))
      have hopi := hop b.code[k] (List.getElem_mem _)
      generalize (b.code.take k).foldl Mer.step [] = acc at *
      generalize hi0 : b.code[k] = i at *
      (repeat first | refine zSeq ?_ | refine zReg ?_ | refine zBlk ?_ | refine zSkp ?_ | refine zNil rfl ?_ | refine zLss rfl rfl ?_ | refine zT rfl (by assumption) ?_ | refine zIdx rfl rfl ha1 ?_ | refine zLd rfl hl1 ?_)
      refine zAlc E_api_Ins zero39 fun H7 f7 b7 n7 => ?_
      refine zStB b7 rfl rfl E_api_Ins (by rw [te_api_Ins_size]; rfl) (by have := hva.oneCell; simp [Ins.cells, Value.cells, Value.oneCell'] at this ⊢; exact this) (by simp [Ins.cells, Value.cells]) (by simp [Ins.cells, Value.cells]) fun H8 f8 b8 n8 => ?_
      have b8' : Bx H8 Hc.next 39 (i.cells va) := b8
      have f78 : Fr Hc H8 := f7.young f8 (by simp) (by simp)
      refine zNil rfl ?_
      refine WP.seqS (σ := Unit) (fun x => [(1, .pointer (some ⟨H.next, 0, none⟩)), (2, .pointer (some ⟨H1.next, 0, none⟩)), (3, .pointer (some ⟨H2.next, 0, none⟩)), (36, vc), (37, .int .i64 b.code.length), (38, .int .i64 k), (7, .pointer (some ⟨Hc.next, 0, none⟩))]) (fun _ Ht => Fr H8 Ht ∧ Mer.step acc i = acc ++ [i]) ?_ ?_
      · unfold Ins.cells at b8'
        by_cases h7 : i.op = 7
        · have g7 : decide (i.op = 7) = true := decide_eq_true h7
          have hbx8 := hbx.fr f78
          have how8 := how.fr InsR.m f78
          obtain ⟨_, H9, hc9, rfl, f9⟩ := gives_c (H := H8) hO (hg.fr (frH.trans f78)) (how8.els InsR.m) (by omega) hao i.n
          by_cases h0 : Mer.givesI acc i.n < 0
          · have g8 : decide (0 ≤ Mer.givesI acc i.n) = false := decide_eq_false (by omega)
            (repeat first | refine zSeq ?_ | refine zReg ?_ | refine zNil rfl ?_ | refine zEql rfl rfl ?_ | refine zT rfl (by assumption) ?_ | refine zFld (f := 0) rfl O_api_Ins_Op ?_ | refine zFld (f := 4) rfl O_api_Ins_N ?_ | refine zLd (ty := 2) rfl (Bx.ld (by assumption) (by rfl) E_int64 rfl) ?_ | refine zLd (ty := 5) rfl (Bx.ld (by assumption) (by rfl) E_uint8 rfl) ?_ | refine zLd (ty := 31) rfl (Bx.ld (by assumption) (by rfl) E_s_api_Ins rfl) ?_ | refine zFld (f := 1) rfl O_api_Block_Code ?_)
            refine WL.call rfl rfl is_merge_gives hc9 ?_
            (repeat first | refine zSeq ?_ | refine zReg ?_ | refine zSkp ?_ | refine zNil rfl ?_ | refine zGet rfl ?_ | refine zGeq rfl rfl ?_ | refine zF rfl (by assumption) ?_)
            exact ⟨(), ⟨f9, step_no h0⟩, rfl, rfl, rfl, rfl, rfl, rfl, rfl, trivial⟩
          · have g8 : decide (0 ≤ Mer.givesI acc i.n) = true := decide_eq_true (by omega)
            obtain ⟨at_, hat, hgi, hst2⟩ := step_yes h7 (Int.not_lt.1 h0)
            rw [hgi] at hc9 g8
            have hn9 := f9.1
            have hn8 := f78.1
            have hnc := hfr.1
            have hyc := how.young
            have hbx9 := hbx8.fr f9
            obtain ⟨s1, s2, cv', H10, o', q1, q2, q3, q4, q5⟩ := (how8.fr InsR.m f9).erase (V := V) InsR.m (hBlt.mono (by omega)) (fun h => (InsR.one h).1) hat (by decide) (bytes := 64) (by omega) (by omega) (by omega) E_s_api_Ins E_api_Ins te_api_Ins_size te_api_Ins_bytes
            obtain ⟨h1v, h2v⟩ := q4.oneCell InsR.m
            have hbx10 := hbx9.fr q5
            (repeat first | refine zSeq ?_ | refine zReg ?_ | refine zNil rfl ?_ | refine zEql rfl rfl ?_ | refine zT rfl (by assumption) ?_ | refine zFld (f := 0) rfl O_api_Ins_Op ?_ | refine zFld (f := 4) rfl O_api_Ins_N ?_ | refine zLd (ty := 2) rfl (Bx.ld (by assumption) (by rfl) E_int64 rfl) ?_ | refine zLd (ty := 5) rfl (Bx.ld (by assumption) (by rfl) E_uint8 rfl) ?_ | refine zLd (ty := 31) rfl (Bx.ld (by assumption) (by rfl) E_s_api_Ins rfl) ?_ | refine zFld (f := 1) rfl O_api_Block_Code ?_)
            refine WL.call rfl rfl is_merge_gives hc9 ?_
            (repeat first | refine zSeq ?_ | refine zReg ?_ | refine zNil rfl ?_ | refine zGet rfl ?_ | refine zGeq rfl rfl ?_ | refine zT rfl rfl ?_ | refine zLd (ty := 31) rfl (Bx.ld (by assumption) (by rfl) E_s_api_Ins rfl) ?_ | refine zFld (f := 1) rfl O_api_Block_Code ?_)
            refine WL.op (op_slice rfl rfl rfl rfl q1) ?_
            (repeat first | refine zGet rfl ?_ | refine zAdd rfl rfl (by omega) ?_ | refine zLd (ty := 31) rfl (Bx.ld (by assumption) (by rfl) E_s_api_Ins rfl) ?_ | refine zFld (f := 1) rfl O_api_Block_Code ?_)
            refine WL.op (op_slice rfl rfl rfl rfl q2) ?_
            refine WL.op (q3 rfl rfl) ?_
            (repeat first | refine zFld (f := 1) rfl O_api_Block_Code ?_)
            refine zStB hbx10 rfl rfl E_s_api_Ins (by rw [← Array.length_toList, h2v]; rfl) (by rw [h2v]; simp [h1v]) (by rw [h2v]; simp) (by rw [h2v]; simp) fun H12 f12 b12 n12 => ?_
            rw [h2v] at b12
            have b12' : Bx H12 H2.next 34 [pv, cv', .slice fa fn fc, .slice ta tn tc] := b12
            have hfin : FrX [H2.next] [] Hp H12 := (hfr.trans (((f78.trans f9).trans q5).x [] []) (by simp) (by simp)).trans f12 (fun b hb _ => hb) (by simp)
            (repeat first | refine zReg ?_ | refine zExt ?_ | refine zNil rfl ?_ | refine zAdd rfl rfl (by omega) ?_)
            exact ⟨(k + 1, cv', o'), ⟨hfin, b12', by simp only; rw [hst, hst2]; exact q4.frX InsR.m (hBsub f12), h⟩, by simp only; omega, rfl, rfl, rfl, rfl, rfl, rfl, trivial⟩
        · have g7 : decide (i.op = 7) = false := decide_eq_false h7
          (repeat first | refine zSeq ?_ | refine zReg ?_ | refine zSkp ?_ | refine zNil rfl ?_ | refine zEql rfl rfl ?_ | refine zF rfl (by assumption) ?_ | refine zFld (f := 0) rfl O_api_Ins_Op ?_ | refine zLd (ty := 5) rfl (Bx.ld (by assumption) (by rfl) E_uint8 rfl) ?_)
          exact ⟨(), ⟨.refl _, step_ne h7⟩, rfl, rfl, rfl, rfl, rfl, rfl, rfl, trivial⟩
      · rintro _ Ht ⟨f8t, hsa⟩
        have hbxt := (hbx.fr f78).fr f8t
        have bt := b8'.fr f8t
        have fct := f78.trans f8t
        obtain ⟨ca, cn, cc, H9, hc9, f9, hcl9⟩ := clone2_c (H := Ht) hO (hva.fr fct) hLa
        unfold Ins.cells at bt
        (repeat first | refine zSeq ?_ | refine zReg ?_ | refine zFld (f := 5) rfl O_api_Ins_Args ?_ | refine zLd (ty := 32) rfl (Bx.ld (by assumption) (by rfl) E_s_int rfl) ?_)
        refine WL.call rfl rfl is_slices_Clone_s_int_int hc9 ?_
        (repeat first | refine zFld (f := 5) rfl O_api_Ins_Args ?_)
        refine zStB (bt.fr f9) rfl rfl E_s_int (by simp [Value.cells]) (by simp [Value.cells, Value.oneCell']) (by simp [Value.cells]) (by simp [Value.cells]) fun H10 f10 b10 n10 => ?_
        have b10' : Bx H10 Hc.next 39 (i.cells (.slice ca cn cc)) := b10
        have hnc := fct.1
        have hbt := bt.1
        have hn9 := f9.1
        have fc10 : Fr Hc H10 := (fct.trans f9).young f10 (by simp) (by simp)
        have how10 := how.fr InsR.m fc10
        have hbx10 := hbx.fr fc10
        have hyc := how.young
        have hnpc := hfr.1
        have hncx : Hc.next < H10.next := b10'.1
        obtain ⟨cv', H11, o', k1, k2, k3, k4⟩ := how10.app1 (V := V) (x := i) (cx := i.cells (.slice ca cn cc)) InsR.m (hBlt.mono (by omega)) ⟨_, rfl, (hcl9.frX (f10.sub (fun b hb => by simp [Av.old] at hb ⊢; omega) (by simp))).gr (Av.old_gr ((hBlt.mono (by omega)).and ⟨fun b hb => by have := hyc.2.2.1 b hb; omega, fun b hb => by have := hyc.2.2.2 b hb; omega⟩))⟩ InsR.one (by decide) (bytes := 64) (by omega) (by omega) (by omega) E_s_api_Ins E_s_api_Ins E_api_Ins te_api_Ins_size te_api_Ins_bytes
        have hnc' : H2.next < Hc.next := by omega
        have hbx11 := hbx10.frX k3 (fun hb => by have := hyc.1 _ hb; omega)
        obtain ⟨h1v, h2v⟩ := k2.oneCell InsR.m
        (repeat first | refine zReg ?_ | refine zNil rfl ?_ | refine zLd (ty := 31) rfl (Bx.ld (by assumption) (by rfl) E_s_api_Ins rfl) ?_ | refine zFld (f := 1) rfl O_api_Block_Code ?_)
        refine zLd (ty := 39) rfl (b10'.ldN E_api_Ins te_api_Ins_agg (by rw [te_api_Ins_size]; rfl)) ?_
        refine WL.op (op_buildSlice rfl E_s_api_Ins E_api_Ins (by rw [te_api_Ins_size]; decide) fill39) ?_
        refine WL.op (k1 rfl rfl) ?_
        (repeat first | refine zFld (f := 1) rfl O_api_Block_Code ?_)
        refine zStB hbx11 rfl rfl E_s_api_Ins (by rw [← Array.length_toList, h2v]; rfl) (by rw [h2v]; simp [h1v]) (by rw [h2v]; simp) (by rw [h2v]; simp) fun H12 f12 b12 n12 => ?_
        rw [h2v] at b12
        have b12' : Bx H12 H2.next 34 [pv, cv', .slice fa fn fc, .slice ta tn tc] := b12
        have hfin : FrX [H2.next] [] Hp H12 := ((hfr.trans (fc10.x [] []) (by simp) (by simp)).trans k3 (fun b hb hlt => absurd (hyc.1 b hb) (by omega)) (fun b hb hlt => absurd (hyc.2.1 b hb) (by omega))).trans f12 (fun b hb _ => hb) (by simp)
        (repeat first | refine zReg ?_ | refine zNil rfl ?_ | refine zAdd rfl rfl (by omega) ?_)
        exact ⟨(k + 1, cv', o'), ⟨hfin, b12', by simp only; rw [hst, hsa]; exact k2.frX InsR.m (hBsub f12), h⟩, by simp only; omega, rfl, rfl, rfl, rfl, rfl, rfl, trivial⟩
    · rintro ⟨cv, o2⟩ Hz ⟨hfr, hbx, how⟩
      simp only at hfr hbx how ⊢
      (repeat first | refine zSeq ?_ | refine zReg ?_)
      refine zLd (ty := 34) rfl (hbx.ldN E_api_Block te_api_Block_agg (by rw [te_api_Block_size]; rfl)) ?_
      have b2z := b2p.frX hfr (by simp; omega)
      obtain ⟨h1v, -⟩ := how.oneCell InsR.m
      obtain ⟨h2v, -⟩ := howp.oneCell PhiR.m
      refine zStB b2z rfl rfl E_api_Block (by rw [te_api_Block_size]; rfl) (by simp [Value.cells, Value.oneCell'] at h1v h2v ⊢; exact ⟨h2v, h1v⟩) (by simp [Value.cells]) (by simp [Value.cells]) fun H9 f9 b9 n9 => ?_
      have b9' : Bx H9 H1.next 34 [pv, cv, .slice fa fn fc, .slice ta tn tc] := b9
      refine zNil rfl ?_
      have fpz : FrX B.bs B.gs Hp H9 := (hBsub hfr).trans (hBsub1 f9) (fun b hb _ => hb) (fun b hb _ => hb)
      have fz6 : FrX B.bs B.gs H6 H9 := (hBsub hfrp).trans fpz (fun b hb _ => hb) (fun b hb _ => hb)
      refine WP.ret ⟨.inr rfl, _, resL_cell rfl (b9'.ldN E_api_Block te_api_Block_agg (by rw [te_api_Block_size]; rfl)) rfl, _, rfl, ⟨⟨pv, cv, _, _, rfl, ?_, ?_, ?_, ?_⟩, cv, rfl, ((how.frX InsR.m (hBsub1 f9)).slb (by have := (Mer.code_sub b.code).length_le; unfold unk; omega)).gr hBG⟩, ((f1p.young hfr (by simp; omega) (by simp)).young f9 (by simp; omega) (by simp))⟩
      · exact ((howp.frX PhiR.m fpz).els PhiR.m).gr PhiR.m hBG
      · exact ((how.frX InsR.m (hBsub1 f9)).els InsR.m).gr InsR.m hBG
      · exact (hf6.frX fz6).gr hBG
      · exact (ht6.frX fz6).gr hBG
end Go.Proofs.YtfhmdhndmlinkaaDoor.U

/-
  Contracts of merge: Of.
-/
namespace Go.Ev
def GraphS : Rq Graph := fun A H cs g => ∃ vb, cs = [.string g.name, .bool g.thread, .int .i64 g.params, .int .i64 g.regs, vb] ∧ Els 4 BlockS A H vb g.blocks
theorem GraphS.r {A : Av} {H : AH} {cs : List Value} {g : Graph} (h : GraphS A H cs g) : GraphR A H cs g := let ⟨vb, h1, h2⟩ := h; ⟨vb, h1, h2.imp fun h => h.1⟩
end Go.Ev
namespace Go.Mer
open Go.Ev
def graph (g : Graph) : Graph := { g with blocks := g.blocks.map block }
def zero : Graph := ⟨⟨⟨[]⟩⟩, false, 0, 0, []⟩
theorem graph_graph (g : Graph) : graph (graph g) = graph g := by
  unfold graph
  simp only [List.map_map]
  congr 1
  exact List.map_congr_left fun b _ => block_block b
end Go.Mer
namespace Go.Proofs.YtfhmdhndmlinkaaDoor.U
open Go Go.Ev
attribute [local irreducible] WL WP WH W
theorem zero24 : te_api_Graph.zv.cells.toList = [.string ⟨⟨[]⟩⟩, .bool false, .int .i64 0, .int .i64 0, .slice none 0 0] := by kernel_rfl
theorem build24 : aBuild V.E 24 [] = some (.agg #[.string ⟨⟨[]⟩⟩, .bool false, .int .i64 0, .int .i64 0, .slice none 0 0]) := by kernel_rfl
theorem te_api_Block_bytes' : te_api_Block.bytes = 96 := by kernel_rfl
theorem fill34 {a0 a1 a2 a3 : Value} : afill (fun i => some (i * te_api_Block.size, te_api_Block.size)) (azeros te_api_Block.zv.cells.toList 1) [(0, .agg #[a0, a1, a2, a3])] = some [a0, a1, a2, a3] := by kernel_rfl
attribute [local irreducible] V
variable {O : Orc} {H : AH}
structure SmallG (g : Graph) : Prop where
  nb : g.blocks.length ≤ 1000
  b : ∀ b ∈ g.blocks, SmallB b
theorem SmallG.small {g : Graph} (h : SmallG g) : Small g := ⟨by have := h.nb; omega, fun b hb => by have := (h.b b hb).code; omega, fun b hb => by have := (h.b b hb).phis; omega, fun b hb => by have := (h.b b hb).frm; omega, fun b hb => by have := (h.b b hb).to; omega, fun b hb p hp => by have := (h.b b hb).pargs p hp; omega⟩
theorem SmallB.mer {b : Block} (h : SmallB b) : SmallB (Mer.block b) := ⟨by have := (Mer.code_sub b.code).length_le; have := h.code; simp only [Mer.block]; omega, h.phis, h.frm, h.to, h.pargs, fun i hi => h.cargs i ((Mer.code_sub b.code).subset hi)⟩
theorem SmallG.mer {g : Graph} (h : SmallG g) : SmallG (Mer.graph g) := ⟨by simp only [Mer.graph, List.length_map]; exact h.nb, fun b hb => by
  simp only [Mer.graph, List.mem_map] at hb
  obtain ⟨b', hb', rfl⟩ := hb
  exact (h.b b' hb').mer⟩
def okG (g : Graph) : Bool := Flo.may mi g && Flo.may mi (Mer.graph g)
def outG (g : Graph) : Graph := bif okG g then Mer.graph g else Mer.zero
def errG (g : Graph) : Int := bif okG g then 0 else 4
theorem ops_mer {g : Graph} {p : Int → Prop} (h : ∀ b ∈ g.blocks, ∀ i ∈ b.code, p i.op) : ∀ b ∈ (Mer.graph g).blocks, ∀ i ∈ b.code, p i.op := fun b hb i hi => by
  simp only [Mer.graph, List.mem_map] at hb
  obtain ⟨b', hb', rfl⟩ := hb
  exact h b' hb' i ((Mer.code_sub b'.code).subset hi)
theorem zeroG_R {A : Av} {H : AH} : GraphS A H [.string ⟨⟨[]⟩⟩, .bool false, .int .i64 0, .int .i64 0, .slice none 0 0] Mer.zero := by
  exact ⟨.slice none 0 0, rfl, .nil⟩
set_option maxHeartbeats 4000000 in
theorem mof_c (hO : NoO O) (hgh : GH H) (hg : GM H) {A : Av} {g : Graph} {cs : List Value} (hR : GraphR A H cs g) (hsm : SmallG g) (hop : ∀ b ∈ g.blocks, ∀ i ∈ b.code, 0 ≤ i.op ∧ i.op < 256) :
    ∃ u H', Lc V O F_merge_Of [.agg cs.toArray] H u H' ∧ (∃ cs' : List Value, u = .tuple #[.agg cs'.toArray, .int .i64 (errG g)] ∧ GraphS (.old H.next) H' cs' (outG g) ∧ Fr H H') := by
  have hR0 := hR
  obtain ⟨vb, rfl, hb⟩ := hR
  have hlb := hsm.nb
  refine Lc.merge_Of (R := fun u H' => ∃ cs' : List Value, u = .tuple #[.agg cs'.toArray, .int .i64 (errG g)] ∧ GraphS (.old H.next) H' cs' (outG g) ∧ Fr H H') (hO _ _ _ (by decide) (by decide) (by decide) (by decide)) (Nat.le_of_ble_eq_true rfl) (by kernel_rfl) ?_
  unfold P_merge_Of
  refine zSeq ?_
  refine zReg ?_
  refine zBox rfl (fun _ => rfl) fun H1 f1 b1 n1 => ?_
  have b1' : Bx H1 H.next 24 (graphC g vb) := b1
  refine zAlc E_api_Graph zero24 fun H2 f2 b2 n2 => ?_
  replace b1' := b1'.fr f2
  have f12 := f1.trans f2
  clear b1 f1 f2
  obtain ⟨_, H3, hc3, rfl, f3⟩ := may_c (H := H2) hO (hgh.fr f12) (GraphR.m.fr hR0 f12) hsm.small hop
  have b13 := b1'.fr f3
  have b23 := b2.fr f3
  cases hm1 : Flo.may mi g
  · rw [hm1] at hc3
    (repeat first | refine zSeq ?_ | refine zReg ?_ | refine zNil rfl ?_ | refine zAsg rfl ?_)
    refine zLd (ty := 24) rfl (b1'.ldN E_api_Graph te_api_Graph_agg (by rw [te_api_Graph_size]; rfl)) ?_
    refine WL.call rfl rfl is_flow_May hc3 ?_
    (repeat first | refine zSeq ?_ | refine zReg ?_ | refine zNil rfl ?_ | refine zNot rfl ?_ | refine zT rfl rfl ?_)
    refine WL.op (op_build rfl build24) ?_
    refine zStB b23 rfl rfl E_api_Graph (by rw [te_api_Graph_size]; rfl) rfl (by simp [Value.cells]) (by simp [Value.cells]) fun H4 f4 b4 n4 => ?_
    have b4' : Bx H4 H1.next 24 [.string ⟨⟨[]⟩⟩, .bool false, .int .i64 0, .int .i64 0, .slice none 0 0] := b4
    (repeat first | refine zNil rfl ?_ | refine zAsg rfl ?_)
    have ho : okG g = false := by unfold okG; rw [hm1]; rfl
    refine WP.ret ⟨.inr rfl, _, resL_cell rfl (b4'.ldN E_api_Graph te_api_Graph_agg (by rw [te_api_Graph_size]; rfl)) rfl, _, by rw [errG, ho]; rfl, by rw [outG, ho]; exact zeroG_R, (f12.trans f3).young f4 (by simp; omega) (by simp)⟩
  rw [hm1] at hc3
  have hop2 : ∀ b ∈ g.blocks, ∀ i ∈ b.code, 0 ≤ i.op ∧ i.op < 14 := fun b hb i hi => by have := Flo.may_op mi_op hm1 b hb i hi; omega
  (repeat first | refine zSeq ?_ | refine zReg ?_ | refine zNil rfl ?_ | refine zAsg rfl ?_)
  refine zLd (ty := 24) rfl (b1'.ldN E_api_Graph te_api_Graph_agg (by rw [te_api_Graph_size]; rfl)) ?_
  refine WL.call rfl rfl is_flow_May hc3 ?_
  (repeat first | refine zSeq ?_ | refine zReg ?_ | refine zSkp ?_ | refine zNil rfl ?_ | refine zNot rfl ?_ | refine zF rfl rfl ?_)
  refine zLd (ty := 24) rfl (b13.ldN E_api_Graph te_api_Graph_agg (by rw [te_api_Graph_size]; rfl)) ?_
  refine zAlc E_api_Graph zero24 fun H4 f4 b4 n4 => ?_
  have hv1 : Value.oneCell' vb = true := hb.oneCell
  refine zStB b4 rfl rfl E_api_Graph (by rw [te_api_Graph_size]; rfl) (by simp [Value.cells, Value.oneCell', graphC] at hv1 ⊢; exact hv1) (by simp [Value.cells, graphC]) (by simp [Value.cells, graphC]) fun H5 f5 b5 n5 => ?_
  have b5' : Bx H5 H3.next 24 (graphC g vb) := b5
  have f35 : Fr H3 H5 := f4.young f5 (by simp) (by simp)
  have b15 := b13.fr f35
  have b25 := b23.fr f35
  (repeat first | refine zSeq ?_ | refine zReg ?_ | refine zNil rfl ?_ | refine zFld (f := 4) rfl O_api_Graph_Blocks ?_)
  refine zStB b5' rfl rfl E_s_api_Block rfl rfl (by simp [Value.cells]) (by simp [Value.cells, graphC]) fun H6 f6 b6 n6 => ?_
  have b6' : Bx H6 H3.next 24 (graphC g (.slice none 0 0)) := b6
  have f36 : Fr H3 H6 := f35.young f6 (by simp) (by simp)
  have b16 := b13.fr f36
  have b26 := b23.fr f36
  have f16 : Fr H H6 := (f12.trans f3).trans f36
  have hn6 : H3.next < H6.next := b6'.1
  have hn23 := f3.1
  have hn02 := f12.1
  have hn3 : H4.next = H3.next + 1 := n4
  have hBG : ∀ {n : Nat}, (Av.old H4.next).Gr (.old H.next) n := Av.old_gr (Av.old_lt.mono (by omega))
  generalize hB : Av.old H4.next = B at *
  have hBsub : ∀ {Hx Hy : AH} {c : Nat}, c ≤ H3.next → FrX [c] [] Hx Hy → FrX B.bs B.gs Hx Hy := fun hc h => h.sub (fun b hb => by rw [← hB]; simp [Av.old] at hb ⊢; omega) (by simp)
  have hBlt : B.Lt H6.next := by
    rw [← hB]; exact Av.old_lt.mono (by omega)
  clear b1' b2 b13 b23 b4 b5 b5' b15 b25 b6 f3 f4 f5 f6 f12 f35 hc3
  refine zNil rfl ?_
  refine WP.seqS (σ := Value × Option (Nat × Nat)) (fun x => [(2, .pointer (some ⟨H1.next, 0, none⟩)), (4, .pointer (some ⟨H3.next, 0, none⟩))]) (fun x Hc => FrX [H3.next] [] H6 Hc ∧ Bx Hc H3.next 24 (graphC g x.1) ∧ OwV 34 4 BlockS B Hc H6.next x.1 (g.blocks.map Mer.block) x.2) ?_ ?_
  · have hbl := hb
    (repeat first | refine zSeq ?_ | refine zReg ?_ | refine zBlk ?_ | refine zNil rfl ?_ | refine zMov rfl ?_ | refine zFld (f := 4) rfl O_api_Graph_Blocks ?_ | refine zLd (ty := 22) rfl (Bx.ld (by assumption) (by rfl) E_s_api_Block rfl) ?_ | refine zLen rfl (hbl.len E_s_api_Block) ?_)
    refine WP.loopH (σ := Nat × Value × Option (Nat × Nat)) (fun x => [(2, .pointer (some ⟨H1.next, 0, none⟩)), (4, .pointer (some ⟨H3.next, 0, none⟩)), (14, vb), (15, .int .i64 g.blocks.length), (16, .int .i64 x.1)]) (fun x Hc => FrX [H3.next] [] H6 Hc ∧ Bx Hc H3.next 24 (graphC g x.2.1) ∧ OwV 34 4 BlockS B Hc H6.next x.2.1 ((g.blocks.take x.1).map Mer.block) x.2.2 ∧ x.1 ≤ g.blocks.length) (fun x => g.blocks.length - x.1) (0, .slice none 0 0, none) ⟨.refl _ _ _, b6', .inl ⟨.nil, by simp [obs], by simp [ogs]⟩, Nat.zero_le _⟩ ⟨rfl, rfl, rfl, rfl, rfl, trivial⟩ ?_
    rintro ⟨k, bv, o⟩ Hc ⟨hfr, hbx, how, hk⟩
    simp only at hfr hbx how hk ⊢
    rcases Nat.lt_or_ge k g.blocks.length with h | h
    case inr =>
      have g1 : decide ((k : Int) < g.blocks.length) = false := decide_eq_false (by omega)
      rw [List.take_of_length_le h] at how
      (repeat first | refine zSeq ?_ | refine zReg ?_ | refine zExt ?_ | refine zNil rfl ?_ | refine zLss rfl rfl ?_ | refine zF rfl (by assumption) ?_)
      exact ⟨(bv, o), ⟨hfr, hbx, how⟩, rfl, rfl, trivial⟩
    have g1 : decide ((k : Int) < g.blocks.length) = true := decide_eq_true (by omega)
    have frH : Fr H Hc := f16.young hfr (by simp; omega) (by simp)
    have hpc : Els 4 BlockR A Hc vb g.blocks := hb.fr BlockR.m frH
    obtain ⟨bb, off, cs, ha1, hrd, hR⟩ := hpc.at E_s_api_Block E_api_Block te_api_Block_size (kd := .i64) h
    have hl1 := hrd.loadN (V := V) E_api_Block te_api_Block_agg te_api_Block_size
    have hsb := hsm.b g.blocks[k] (List.getElem_mem _)
    have hopb := hop2 g.blocks[k] (List.getElem_mem _)
    generalize hb0 : g.blocks[k] = x at *
    have hone := (BlockR.one hR).1
    have hlen := (BlockR.one hR).2
    (repeat first | refine zSeq ?_ | refine zReg ?_ | refine zBlk ?_ | refine zSkp ?_ | refine zNil rfl ?_ | refine zLss rfl rfl ?_ | refine zT rfl (by assumption) ?_ | refine zIdx rfl rfl ha1 ?_ | refine zLd rfl hl1 ?_)
    refine zAlc E_api_Block zero34 fun H7 f7 b7 n7 => ?_
    refine zStB b7 rfl rfl E_api_Block (by rw [te_api_Block_size]; simpa [Value.cells] using hlen) (by simpa [Value.cells] using hone) (by intro e; simp [Value.cells] at e; rw [e] at hlen; simp at hlen) (by simp [Value.cells, hlen]) fun H8 f8 b8 n8 => ?_
    have b8' : Bx H8 Hc.next 34 cs := by
      have e : splice (List.replicate 4 (Value.slice none 0 0)) 0 (Value.agg cs.toArray).cells.toList = cs := by
        unfold splice; simp [Value.cells, hlen]
      rw [← e]; exact b8
    have f78 : Fr Hc H8 := f7.young f8 (by simp) (by simp)
    have hbx8 := hbx.fr f78
    have how8 := how.fr BlockS.m f78
    obtain ⟨_, H9, hc9, cs', rfl, hR9, f9⟩ := mblock_c (H := H8) hO (hg.fr (frH.trans f78)) (BlockR.m.fr hR f78) hsb hopb
    have how9 := how8.fr BlockS.m f9
    have hbx9 := hbx8.fr f9
    have hn8 := f78.1
    have hn9 := f9.1
    have hn6c := hfr.1
    have hyo := how8.young
    obtain ⟨bv', H10, o', k1, k2, k3, k4⟩ := how9.app1 (V := V) (x := Mer.block x) (cx := cs') BlockS.m (hBlt.mono (by omega)) (BlockS.m.gr (Av.old_gr ((hBlt.mono (by omega)).and ⟨hyo.2.2.1, hyo.2.2.2⟩)) hR9) BlockS.one (by decide) (bytes := 96) (by rw [List.length_map, List.length_take]; omega) (by rw [List.length_map, List.length_take]; omega) (by omega) E_s_api_Block E_s_api_Block E_api_Block te_api_Block_size te_api_Block_bytes'
    have hfill : afill (fun i => some (i * te_api_Block.size, te_api_Block.size)) (azeros te_api_Block.zv.cells.toList 1) [(0, .agg cs'.toArray)] = some cs' := by
      obtain ⟨⟨vp, vc, vf, vt, rfl, _⟩, _⟩ := hR9
      exact fill34
    refine zNil rfl ?_
    refine WP.rega ?_
    refine yFld (f := 4) rfl O_api_Graph_Blocks ?_
    refine yLd rfl (hbx8.ld (off := 4) rfl E_s_api_Block rfl) ?_
    refine yLd rfl (b8'.ldN E_api_Block te_api_Block_agg (by rw [te_api_Block_size]; exact hlen.symm)) ?_
    refine WH.call rfl rfl is_merge_block hc9 ?_
    refine WH.op (op_buildSlice rfl E_s_api_Block E_api_Block (by rw [te_api_Block_size]; decide) hfill) ?_
    refine WH.op (k1 rfl rfl) ?_
    have hyc := how.young
    have hbx10 := hbx9.frX k3 (fun hb => by have := hyc.1 _ hb; omega)
    obtain ⟨h1v, h2v⟩ := k2.oneCell BlockS.m
    refine yFld (f := 4) rfl O_api_Graph_Blocks ?_
    refine yStB hbx10 rfl rfl E_s_api_Block (by rw [← Array.length_toList, h2v]; rfl) (by rw [h2v]; simp [h1v]) (by rw [h2v]; simp) (by rw [h2v]; simp [graphC]) fun H11 f11 b11 n11 => ?_
    rw [h2v] at b11
    have b11' : Bx H11 H3.next 24 (graphC g bv') := b11
    refine WH.nil ⟨?_, _, rfl, ?_⟩
    · intro y hy
      rw [List.mem_singleton] at hy
      subst hy
      obtain ⟨_, hsl, _⟩ := how.els BlockS.m
      obtain ⟨q1, q2, q3, rfl⟩ := hsl.isSl
      exact .inr ⟨rfl, _, _, _, rfl, rfl, op_load rfl ((hbx9.fr (.alloc _ _)).ld (off := 4) rfl E_s_api_Block rfl), sameV_sl⟩
    (repeat first | refine zReg ?_ | refine zNil rfl ?_ | refine zAdd rfl rfl (by omega) ?_)
    have hfin : FrX [H3.next] [] H6 H11 := ((hfr.trans ((f78.trans f9).x [] []) (by simp) (by simp)).trans k3 (fun b hb hlt => absurd (hyc.1 b hb) (by omega)) (fun b hb hlt => absurd (hyc.2.1 b hb) (by omega))).trans f11 (fun b hb _ => hb) (by simp)
    exact ⟨(k + 1, bv', o'), ⟨hfin, b11', by rw [List.take_succ_eq_append_getElem h, hb0, List.map_append]; exact k2.frX BlockS.m (hBsub (by omega) f11), h⟩, by simp only; omega, rfl, rfl, rfl, rfl, rfl, trivial⟩
  · rintro ⟨bv, o⟩ Hp ⟨hfrp, hbxp, howp⟩
    simp only at hfrp hbxp howp ⊢
    have f1p : Fr H Hp := f16.young hfrp (by simp; omega) (by simp)
    have b2p := b26.frX hfrp (by simp; omega)
    have hRp : GraphR B Hp (graphC g bv) (Mer.graph g) := ⟨bv, rfl, (howp.els BlockS.m).imp fun h => h.1⟩
    obtain ⟨_, Hq, hcq, rfl, fq⟩ := may_c (H := Hp) hO (hgh.fr f1p) hRp hsm.mer.small (ops_mer (p := fun x => 0 ≤ x ∧ x < 256) hop)
    have b2q := b2p.fr fq
    have hbxq := hbxp.fr fq
    cases hm2 : Flo.may mi (Mer.graph g)
    · rw [hm2] at hcq
      (repeat first | refine zSeq ?_ | refine zReg ?_)
      refine zLd (ty := 24) rfl (hbxp.ldN E_api_Graph te_api_Graph_agg (by rw [te_api_Graph_size]; rfl)) ?_
      refine WL.call rfl rfl is_flow_May hcq ?_
      (repeat first | refine zSeq ?_ | refine zReg ?_ | refine zNil rfl ?_ | refine zNot rfl ?_ | refine zT rfl rfl ?_)
      refine WL.op (op_build rfl build24) ?_
      refine zStB b2q rfl rfl E_api_Graph (by rw [te_api_Graph_size]; rfl) rfl (by simp [Value.cells]) (by simp [Value.cells]) fun H7 f7 b7 n7 => ?_
      have b7' : Bx H7 H1.next 24 [.string ⟨⟨[]⟩⟩, .bool false, .int .i64 0, .int .i64 0, .slice none 0 0] := b7
      (repeat first | refine zNil rfl ?_ | refine zAsg rfl ?_)
      have ho : okG g = false := by unfold okG; rw [hm1, hm2]; rfl
      refine WP.ret ⟨.inr rfl, _, resL_cell rfl (b7'.ldN E_api_Graph te_api_Graph_agg (by rw [te_api_Graph_size]; rfl)) rfl, _, by rw [errG, ho]; rfl, by rw [outG, ho]; exact zeroG_R, (f1p.trans fq).young f7 (by simp; omega) (by simp)⟩
    · rw [hm2] at hcq
      (repeat first | refine zSeq ?_ | refine zReg ?_)
      refine zLd (ty := 24) rfl (hbxp.ldN E_api_Graph te_api_Graph_agg (by rw [te_api_Graph_size]; rfl)) ?_
      refine WL.call rfl rfl is_flow_May hcq ?_
      (repeat first | refine zSeq ?_ | refine zReg ?_ | refine zSkp ?_ | refine zNil rfl ?_ | refine zNot rfl ?_ | refine zF rfl rfl ?_)
      refine zLd (ty := 24) rfl (hbxq.ldN E_api_Graph te_api_Graph_agg (by rw [te_api_Graph_size]; rfl)) ?_
      have hv1 := (howp.oneCell BlockS.m).1
      refine zStB b2q rfl rfl E_api_Graph (by rw [te_api_Graph_size]; rfl) (by simp [Value.cells, Value.oneCell', graphC] at hv1 ⊢; exact hv1) (by simp [Value.cells, graphC]) (by simp [Value.cells, graphC]) fun H7 f7 b7 n7 => ?_
      have b7' : Bx H7 H1.next 24 (graphC g bv) := b7
      (repeat first | refine zNil rfl ?_ | refine zAsg rfl ?_)
      have ho : okG g = true := by unfold okG; rw [hm1, hm2]; rfl
      refine WP.ret ⟨.inr rfl, _, resL_cell rfl (b7'.ldN E_api_Graph te_api_Graph_agg (by rw [te_api_Graph_size]; rfl)) rfl, _, by rw [errG, ho]; rfl, by rw [outG, ho]; exact ⟨bv, rfl, (((howp.fr BlockS.m fq).frX BlockS.m (hBsub (by omega) f7)).els BlockS.m).gr BlockS.m hBG⟩, (f1p.trans fq).young f7 (by simp; omega) (by simp)⟩
end Go.Proofs.YtfhmdhndmlinkaaDoor.U

/-
  What the law asks of instructions: quiet, how often, the same.
-/
namespace Go.Proofs.YtfhmdhndmlinkaaDoor.U
open Go Go.Ev
attribute [local irreducible] WL WP WH W
attribute [local irreducible] V
variable {O : Orc} {H : AH}
theorem ins_at {A : Av} {v : Value} {l : List Ins} (h : Els 6 InsR A H v l) {k : Nat} (hk : k < l.length) : ∃ b off va, aIndex V.E 31 v (.int .i64 k) = some (.pointer (some ⟨b, off, none⟩)) ∧ aLoad V.E H 5 (.pointer (some ⟨b, off + 0, none⟩)) = some (.int .u8 l[k].op) ∧ aLoad V.E H 3 (.pointer (some ⟨b, off + 1, none⟩)) = some (.int .i64 l[k].r) ∧ aLoad V.E H 3 (.pointer (some ⟨b, off + 2, none⟩)) = some (.int .i64 l[k].a) ∧ aLoad V.E H 3 (.pointer (some ⟨b, off + 3, none⟩)) = some (.int .i64 l[k].b) ∧ aLoad V.E H 2 (.pointer (some ⟨b, off + 4, none⟩)) = some (.int .i64 l[k].n) ∧ aLoad V.E H 32 (.pointer (some ⟨b, off + 5, none⟩)) = some va ∧ aLoad V.E H 39 (.pointer (some ⟨b, off, none⟩)) = some (.agg (l[k].cells va).toArray) ∧ IntsR A H va l[k].args := by
  obtain ⟨b, off, cs, h1, hrd, va, rfl, hva⟩ := h.at E_s_api_Ins E_api_Ins te_api_Ins_size (kd := .i64) hk
  refine ⟨b, off, va, h1, ?_, ?_, ?_, ?_, ?_, ?_, hrd.loadN E_api_Ins te_api_Ins_agg te_api_Ins_size, hva⟩
  · exact (hrd.sub 0 1 (by omega)).load1 E_uint8 rfl
  · exact (hrd.sub 1 1 (by omega)).load1 E_int rfl
  · exact (hrd.sub 2 1 (by omega)).load1 E_int rfl
  · exact (hrd.sub 3 1 (by omega)).load1 E_int rfl
  · exact (hrd.sub 4 1 (by omega)).load1 E_int64 rfl
  · exact (hrd.sub 5 1 (by omega)).load1 E_s_int rfl
set_option maxHeartbeats 1000000 in
theorem quietL_c (hO : NoO O) (x : Ins) {A : Av} {va : Value} (hva : IntsR A H va x.args) :
    ∃ u H', Lc V O F_ref26_quiet [.agg (x.cells va).toArray] H u H' ∧ (u = .bool (Mer.quiet x) ∧ Fr H H') := by
  refine Lc.ref26_quiet (R := fun u H' => u = .bool (Mer.quiet x) ∧ Fr H H') (hO _ _ _ (by decide) (by decide) (by decide) (by decide)) (Nat.le_of_ble_eq_true rfl) (by kernel_rfl) ?_
  unfold P_ref26_quiet
  refine zSeq ?_
  refine zReg ?_
  refine zBox rfl (fun _ => rfl) fun H1 f1 b1 n1 => ?_
  have b1' : Bx H1 H.next 39 [.int .u8 x.op, .int .i64 x.r, .int .i64 x.a, .int .i64 x.b, .int .i64 x.n, va] := b1
  clear b1
  cases c1 : x.op == 1
  · cases c2 : x.op == 2
    · cases c3 : x.op == 3
      · cases c4 : x.op == 4
        · (repeat first | refine zSeq ?_ | refine zReg ?_ | refine zNil rfl ?_ | refine zOn rfl (by assumption) ?_ | refine zAsg rfl ?_ | refine zPF rfl (by assumption) rfl ?_ | refine zEql rfl rfl ?_ | refine zFld (f := 0) rfl O_api_Ins_Op ?_ | refine zLd (ty := 5) rfl (Bx.ld (by assumption) (by rfl) E_uint8 rfl) ?_)
          exact WP.ret ⟨.inr rfl, _, rfl, by simp [Mer.quiet, c1, c2, c3, c4, resOf], f1⟩
        · (repeat first | refine zSeq ?_ | refine zReg ?_ | refine zNil rfl ?_ | refine zOn rfl (by assumption) ?_ | refine zAsg rfl ?_ | refine zPF rfl (by assumption) rfl ?_ | refine zEql rfl rfl ?_ | refine zFld (f := 0) rfl O_api_Ins_Op ?_ | refine zLd (ty := 5) rfl (Bx.ld (by assumption) (by rfl) E_uint8 rfl) ?_)
          exact WP.ret ⟨.inr rfl, _, rfl, by simp [Mer.quiet, c1, c2, c3, c4, resOf], f1⟩
      · (repeat first | refine zSeq ?_ | refine zReg ?_ | refine zNil rfl ?_ | refine zOn rfl (by assumption) ?_ | refine zOff rfl (by assumption) ?_ | refine zAsg rfl ?_ | refine zPT rfl (by assumption) rfl ?_ | refine zPF rfl (by assumption) rfl ?_ | refine zEql rfl rfl ?_ | refine zFld (f := 0) rfl O_api_Ins_Op ?_ | refine zLd (ty := 5) rfl (Bx.ld (by assumption) (by rfl) E_uint8 rfl) ?_)
        exact WP.ret ⟨.inr rfl, _, rfl, by simp [Mer.quiet, c1, c2, c3, resOf], f1⟩
    · (repeat first | refine zSeq ?_ | refine zReg ?_ | refine zNil rfl ?_ | refine zOff rfl rfl ?_ | refine zOn rfl (by assumption) ?_ | refine zOff rfl (by assumption) ?_ | refine zAsg rfl ?_ | refine zPT rfl rfl rfl ?_ | refine zPT rfl (by assumption) rfl ?_ | refine zPF rfl (by assumption) rfl ?_ | refine zEql rfl rfl ?_ | refine zFld (f := 0) rfl O_api_Ins_Op ?_ | refine zLd (ty := 5) rfl (Bx.ld (by assumption) (by rfl) E_uint8 rfl) ?_)
      exact WP.ret ⟨.inr rfl, _, rfl, by simp [Mer.quiet, c1, c2, resOf], f1⟩
  · (repeat first | refine zSeq ?_ | refine zReg ?_ | refine zNil rfl ?_ | refine zOff rfl rfl ?_ | refine zOff rfl (by assumption) ?_ | refine zAsg rfl ?_ | refine zPT rfl rfl rfl ?_ | refine zPT rfl (by assumption) rfl ?_ | refine zEql rfl rfl ?_ | refine zFld (f := 0) rfl O_api_Ins_Op ?_ | refine zLd (ty := 5) rfl (Bx.ld (by assumption) (by rfl) E_uint8 rfl) ?_)
    exact WP.ret ⟨.inr rfl, _, rfl, by simp [Mer.quiet, c1, resOf], f1⟩
set_option maxHeartbeats 1000000 in
theorem locks_c (hO : NoO O) {A : Av} {v : Value} {l : List Ins} (hc : Els 6 InsR A H v l) (hL : l.length ≤ 1000000) (op lock : Int) :
    ∃ u H', Lc V O F_law26_locks [v, .int .u8 op, .int .i64 lock] H u H' ∧ (u = .int .i64 (l.countP (fun i => i.op == op && i.n == lock)) ∧ H' = H) := by
  refine Lc.law26_locks (R := fun u H' => u = .int .i64 (l.countP (fun i => i.op == op && i.n == lock)) ∧ H' = H) (hO _ _ _ (by decide) (by decide) (by decide) (by decide)) (Nat.le_of_ble_eq_true rfl) (by kernel_rfl) ?_
  unfold P_law26_locks
  have hcl := hc
  (repeat first | refine zSeq ?_ | refine zReg ?_ | refine zBlk ?_ | refine zNil rfl ?_ | refine zAsg rfl ?_)
  refine WP.loopH (σ := Nat) (fun k => [(0, v), (1, .int .u8 op), (2, .int .i64 lock), (7, .int .i64 ((l.take k).countP (fun i => i.op == op && i.n == lock))), (8, .int .i64 k)]) (fun k Hc => Hc = H ∧ k ≤ l.length) (fun k => l.length - k) 0 ⟨rfl, Nat.zero_le _⟩ ⟨rfl, rfl, rfl, rfl, rfl, trivial⟩ ?_
  rintro k Hc ⟨rfl, hk⟩
  rcases Nat.lt_or_ge k l.length with h | h
  · have g1 : decide ((k : Int) < l.length) = true := decide_eq_true (by omega)
    obtain ⟨b, off, va, ia, io, ir, iA, iB, iN, iV, iW, hva⟩ := ins_at hc h
    have hle := List.countP_le_length (p := fun i : Ins => i.op == op && i.n == lock) (l := l.take k)
    rw [List.length_take] at hle
    have hs : (l.take (k + 1)).countP (fun i => i.op == op && i.n == lock) = (l.take k).countP (fun i => i.op == op && i.n == lock) + if l[k].op == op && l[k].n == lock then 1 else 0 := by
      rw [List.take_succ_eq_append_getElem h, List.countP_append, List.countP_singleton]
    cases c1 : l[k].op == op
    · rw [c1, Bool.false_and] at hs
      (repeat first | refine zSeq ?_ | refine zReg ?_ | refine zBlk ?_ | refine zSkp ?_ | refine zNil rfl ?_ | refine zGet rfl ?_ | refine zOff rfl (by assumption) ?_ | refine zPF rfl (by assumption) rfl ?_ | refine zLss rfl rfl ?_ | refine zEql rfl rfl ?_ | refine zAdd rfl rfl (by omega) ?_ | refine zF rfl rfl ?_ | refine zT rfl (by assumption) ?_ | refine zFld (f := 0) rfl O_api_Ins_Op ?_ | refine zLen rfl (hc.len E_s_api_Ins) ?_ | refine zIdx rfl rfl ia ?_ | refine zLd (ty := 5) rfl io ?_)
      exact ⟨k + 1, ⟨rfl, h⟩, by omega, rfl, rfl, rfl, by rw [hs]; rfl, rfl, trivial⟩
    · cases c2 : l[k].n == lock
      · rw [c1, c2] at hs
        (repeat first | refine zSeq ?_ | refine zReg ?_ | refine zBlk ?_ | refine zSkp ?_ | refine zNil rfl ?_ | refine zGet rfl ?_ | refine zOn rfl (by assumption) ?_ | refine zMov rfl ?_ | refine zPT rfl (by assumption) rfl ?_ | refine zLss rfl rfl ?_ | refine zEql rfl rfl ?_ | refine zAdd rfl rfl (by omega) ?_ | refine zT rfl (by assumption) ?_ | refine zF rfl (by assumption) ?_ | refine zFld (f := 0) rfl O_api_Ins_Op ?_ | refine zFld (f := 4) rfl O_api_Ins_N ?_ | refine zLen rfl (hc.len E_s_api_Ins) ?_ | refine zIdx rfl rfl ia ?_ | refine zLd (ty := 5) rfl io ?_ | refine zLd (ty := 2) rfl iN ?_)
        exact ⟨k + 1, ⟨rfl, h⟩, by omega, rfl, rfl, rfl, by rw [hs]; rfl, rfl, trivial⟩
      · rw [c1, c2] at hs
        (repeat first | refine zSeq ?_ | refine zReg ?_ | refine zBlk ?_ | refine zSkp ?_ | refine zNil rfl ?_ | refine zGet rfl ?_ | refine zOn rfl (by assumption) ?_ | refine zMov rfl ?_ | refine zPT rfl (by assumption) rfl ?_ | refine zLss rfl rfl ?_ | refine zEql rfl rfl ?_ | refine zAdd rfl rfl (by omega) ?_ | refine zT rfl (by assumption) ?_ | refine zFld (f := 0) rfl O_api_Ins_Op ?_ | refine zFld (f := 4) rfl O_api_Ins_N ?_ | refine zLen rfl (hc.len E_s_api_Ins) ?_ | refine zIdx rfl rfl ia ?_ | refine zLd (ty := 5) rfl io ?_ | refine zLd (ty := 2) rfl iN ?_)
        exact ⟨k + 1, ⟨rfl, h⟩, by omega, rfl, rfl, rfl, by rw [hs]; rfl, rfl, trivial⟩
  · have g1 : decide ((k : Int) < l.length) = false := decide_eq_false (by omega)
    rw [List.take_of_length_le h]
    (repeat first | refine zSeq ?_ | refine zReg ?_ | refine zExt ?_ | refine zNil rfl ?_ | refine zGet rfl ?_ | refine zLss rfl rfl ?_ | refine zF rfl (by assumption) ?_ | refine zLen rfl (hc.len E_s_api_Ins) ?_)
    exact WP.ret ⟨.inr rfl, _, rfl, rfl, rfl⟩
set_option maxHeartbeats 1000000 in
theorem intsEq_c (hO : NoO O) {A A' : Av} {v v' : Value} {l : List Int} (hv : IntsR A H v l) (hv' : IntsR A' H v' l) (hL : l.length ≤ 1000000) :
    ∃ u H', Lc V O F_ref12_Ints [v, v'] H u H' ∧ (u = .bool true ∧ H' = H) := by
  refine Lc.ref12_Ints (R := fun u H' => u = .bool true ∧ H' = H) (hO _ _ _ (by decide) (by decide) (by decide) (by decide)) (Nat.le_of_ble_eq_true rfl) (by kernel_rfl) ?_
  unfold P_ref12_Ints
  have g0 : ((l.length : Int) != l.length) = false := by simp
  (repeat first | refine zSeq ?_ | refine zReg ?_ | refine zBlk ?_ | refine zSkp ?_ | refine zNil rfl ?_ | refine zGet rfl ?_ | refine zAsg rfl ?_ | refine zNeq rfl rfl ?_ | refine zF rfl (by assumption) ?_ | refine zLen rfl (hv.len E_s_int) ?_ | refine zLen rfl (hv'.len E_s_int) ?_)
  refine WP.loopH (σ := Nat) (fun k => [(0, v), (1, v'), (5, .int .i64 k)]) (fun k Hc => Hc = H ∧ k ≤ l.length) (fun k => l.length - k) 0 ⟨rfl, Nat.zero_le _⟩ ⟨rfl, rfl, rfl, trivial⟩ ?_
  rintro k Hc ⟨rfl, hk⟩
  rcases Nat.lt_or_ge k l.length with h | h
  · have g1 : decide ((k : Int) < l.length) = true := decide_eq_true (by omega)
    obtain ⟨b, off, ja, jl⟩ := hv.at E_s_int E_int (kd := .i64) h
    obtain ⟨b', off', ja', jl'⟩ := hv'.at E_s_int E_int (kd := .i64) h
    have g2 : (l[k] != l[k]) = false := by simp
    (repeat first | refine zSeq ?_ | refine zReg ?_ | refine zBlk ?_ | refine zSkp ?_ | refine zNil rfl ?_ | refine zGet rfl ?_ | refine zLss rfl rfl ?_ | refine zNeq rfl rfl ?_ | refine zAdd rfl rfl (by omega) ?_ | refine zT rfl (by assumption) ?_ | refine zF rfl (by assumption) ?_ | refine zLen rfl (hv.len E_s_int) ?_ | refine zIdx rfl rfl ja ?_ | refine zIdx rfl rfl ja' ?_ | refine zLd (ty := 3) rfl jl ?_ | refine zLd (ty := 3) rfl jl' ?_)
    exact ⟨k + 1, ⟨rfl, h⟩, by omega, rfl, rfl, rfl, trivial⟩
  · have g1 : decide ((k : Int) < l.length) = false := decide_eq_false (by omega)
    (repeat first | refine zSeq ?_ | refine zReg ?_ | refine zExt ?_ | refine zNil rfl ?_ | refine zGet rfl ?_ | refine zAsg rfl ?_ | refine zLss rfl rfl ?_ | refine zF rfl (by assumption) ?_ | refine zLen rfl (hv.len E_s_int) ?_)
    exact WP.ret ⟨.inr rfl, _, rfl, rfl, rfl⟩
end Go.Proofs.YtfhmdhndmlinkaaDoor.U

