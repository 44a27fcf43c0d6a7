/-
  The seat's functions, prepared.
-/
import Derived.Test.YtdkfcpadbahohaaDoorLaw1
import Derived.Test.YtdkfcpadbahohaaDoorProg
import Derived.KernelRfl
set_option linter.all false
namespace Go.Proofs.YtdkfcpadbahohaaDoor.U
open Go Go.Ev
/- bobbin/bobbinlaw01.LexNames -/
abbrev F_law01_LexNames : FuncId := 3
def P_law01_LexNames : PC :=
.seq (
.reg [.run (.assign (.const (.bool false))) none] [(0, 0)]) (
.seq (
.seq (
.reg [.run (.call ⟨.value (.func 8), #[], #[]⟩) none,
  .run (.unOp .not 4 (.tmp 0)) none,
  .run (.pick (.tmp 0) (.const (.bool true)) (.const (.bool false))) none,
  .run (.pick (.tmp 0) (.const (.bool true)) (.const (.bool false))) none,
  .run (.pick (.tmp 0) (.const (.bool true)) (.const (.bool false))) none,
  .run (.pick (.tmp 0) (.const (.bool true)) (.const (.bool false))) none,
  .run (.pick (.tmp 0) (.const (.bool true)) (.const (.bool false))) none,
  .run (.pick (.tmp 0) (.const (.bool true)) (.const (.bool false))) none,
  .run (.pick (.tmp 0) (.const (.bool true)) (.const (.bool false))) none] [(26, 0)]) (
.cond (.tmp 26) (
  .seq (
  .reg [.run (.assign (.const (.bool false))) none] [(0, 0)]) (
  .ret)) (
  .skip))) (
.seq (
.seq (
.reg [.run (.call ⟨.value (.func 9), #[(.const (.string ⟨⟨[]⟩⟩)), (.const (.string ⟨⟨[]⟩⟩)), (.const (.slice none 0 0))], #[9, 9, 28]⟩) none,
  .run (.unOp .not 4 (.tmp 0)) none,
  .run (.call ⟨.value (.func 9), #[(.const (.string ⟨⟨[32, 9, 10, 35, 32, 97, 108, 108, 32, 36, 10, 35]⟩⟩)), (.const (.string ⟨⟨[]⟩⟩)), (.const (.slice none 0 0))], #[9, 9, 28]⟩) (some ((.tmp 0), false)),
  .run (.unOp .not 4 (.tmp 0)) (some ((.tmp 1), false)),
  .run (.pick (.tmp 2) (.const (.bool true)) (.tmp 0)) none,
  .run (.buildSlice 28 23 #[(0, (.const (.string ⟨⟨[124, 124]⟩⟩))), (1, (.const (.string ⟨⟨[38, 38]⟩⟩))), (2, (.const (.string ⟨⟨[60, 61]⟩⟩))), (3, (.const (.string ⟨⟨[62, 61]⟩⟩))), (4, (.const (.string ⟨⟨[61, 61]⟩⟩))), (5, (.const (.string ⟨⟨[33, 61]⟩⟩))), (6, (.const (.string ⟨⟨[60]⟩⟩))), (7, (.const (.string ⟨⟨[62]⟩⟩))), (8, (.const (.string ⟨⟨[61]⟩⟩))), (9, (.const (.string ⟨⟨[43]⟩⟩))), (10, (.const (.string ⟨⟨[45]⟩⟩))), (11, (.const (.string ⟨⟨[42]⟩⟩))), (12, (.const (.string ⟨⟨[47]⟩⟩))), (13, (.const (.string ⟨⟨[37]⟩⟩))), (14, (.const (.string ⟨⟨[33]⟩⟩))), (15, (.const (.string ⟨⟨[40]⟩⟩))), (16, (.const (.string ⟨⟨[41]⟩⟩))), (17, (.const (.string ⟨⟨[123]⟩⟩))), (18, (.const (.string ⟨⟨[125]⟩⟩))), (19, (.const (.string ⟨⟨[91]⟩⟩))), (20, (.const (.string ⟨⟨[93]⟩⟩))), (21, (.const (.string ⟨⟨[59]⟩⟩))), (22, (.const (.string ⟨⟨[44]⟩⟩)))]) (some ((.tmp 0), false)),
  .run (.call ⟨.value (.func 9), #[(.const (.string ⟨⟨[124, 124, 32, 38, 38, 32, 60, 61, 32, 62, 61, 32, 61, 61, 32, 33, 61, 32, 60, 32, 62, 32, 61, 32, 43, 32, 45, 32, 42, 32, 47, 32, 37, 32, 33, 32, 40, 32, 41, 32, 123, 32, 125, 32, 91, 32, 93, 32, 59, 32, 44]⟩⟩)), (.const (.string ⟨⟨[115, 115, 115, 115, 115, 115, 115, 115, 115, 115, 115, 115, 115, 115, 115, 115, 115, 115, 115, 115, 115, 115, 115]⟩⟩)), (.tmp 0)], #[9, 9, 28]⟩) (some ((.tmp 1), false)),
  .run (.unOp .not 4 (.tmp 0)) (some ((.tmp 2), false)),
  .run (.pick (.tmp 3) (.const (.bool true)) (.tmp 0)) none,
  .run (.buildSlice 28 5 #[(0, (.const (.string ⟨⟨[61, 61]⟩⟩))), (1, (.const (.string ⟨⟨[61]⟩⟩))), (2, (.const (.string ⟨⟨[33, 61]⟩⟩))), (3, (.const (.string ⟨⟨[33]⟩⟩))), (4, (.const (.string ⟨⟨[60, 61]⟩⟩)))]) (some ((.tmp 0), false)),
  .run (.call ⟨.value (.func 9), #[(.const (.string ⟨⟨[61, 61, 61, 33, 61, 33, 60, 61, 60]⟩⟩)), (.const (.string ⟨⟨[115, 115, 115, 115, 115]⟩⟩)), (.tmp 0)], #[9, 9, 28]⟩) (some ((.tmp 1), false)),
  .run (.unOp .not 4 (.tmp 0)) (some ((.tmp 2), false)),
  .run (.move (.tmp 0)) (some ((.tmp 3), false)),
  .run (.buildSlice 28 6 #[(0, (.const (.string ⟨⟨[61, 61]⟩⟩))), (1, (.const (.string ⟨⟨[61]⟩⟩))), (2, (.const (.string ⟨⟨[33, 61]⟩⟩))), (3, (.const (.string ⟨⟨[33]⟩⟩))), (4, (.const (.string ⟨⟨[60, 61]⟩⟩))), (5, (.const (.string ⟨⟨[60]⟩⟩)))]) (some ((.tmp 0), true)),
  .run (.call ⟨.value (.func 9), #[(.const (.string ⟨⟨[61, 61, 61, 33, 61, 33, 60, 61, 60]⟩⟩)), (.const (.string ⟨⟨[115, 115, 115, 115, 115, 115]⟩⟩)), (.tmp 0)], #[9, 9, 28]⟩) (some ((.tmp 1), true)),
  .run (.unOp .not 4 (.tmp 0)) (some ((.tmp 2), true)),
  .run (.pick (.tmp 3) (.tmp 0) (.const (.bool false))) (some ((.tmp 7), false)),
  .run (.pick (.tmp 8) (.const (.bool true)) (.tmp 0)) none] [(47, 0)]) (
.cond (.tmp 47) (
  .seq (
  .reg [.run (.assign (.const (.bool false))) none] [(0, 0)]) (
  .ret)) (
  .skip))) (
.seq (
.seq (
.reg [.run (.buildSlice 28 3 #[(0, (.const (.string ⟨⟨[95]⟩⟩))), (1, (.const (.string ⟨⟨[95, 57]⟩⟩))), (2, (.const (.string ⟨⟨[65, 122, 48, 57, 95]⟩⟩)))]) none,
  .run (.call ⟨.value (.func 9), #[(.const (.string ⟨⟨[95, 32, 95, 57, 32, 65, 122, 48, 57, 95]⟩⟩)), (.const (.string ⟨⟨[110, 110, 110]⟩⟩)), (.tmp 0)], #[9, 9, 28]⟩) none,
  .run (.unOp .not 4 (.tmp 0)) none,
  .run (.buildSlice 28 3 #[(0, (.const (.string ⟨⟨[48]⟩⟩))), (1, (.const (.string ⟨⟨[49, 48]⟩⟩))), (2, (.const (.string ⟨⟨[57, 50, 50, 51, 51, 55, 50, 48, 51, 54, 56, 53, 52, 55, 55, 53, 56, 48, 56]⟩⟩)))]) (some ((.tmp 0), false)),
  .run (.call ⟨.value (.func 9), #[(.const (.string ⟨⟨[48, 32, 49, 48, 32, 57, 50, 50, 51, 51, 55, 50, 48, 51, 54, 56, 53, 52, 55, 55, 53, 56, 48, 56]⟩⟩)), (.const (.string ⟨⟨[100, 100, 100]⟩⟩)), (.tmp 0)], #[9, 9, 28]⟩) (some ((.tmp 1), false)),
  .run (.unOp .not 4 (.tmp 0)) (some ((.tmp 2), false)),
  .run (.pick (.tmp 3) (.const (.bool true)) (.tmp 0)) none,
  .run (.buildSlice 28 2 #[(0, (.const (.string ⟨⟨[97]⟩⟩))), (1, (.const (.string ⟨⟨[99]⟩⟩)))]) (some ((.tmp 0), false)),
  .run (.call ⟨.value (.func 9), #[(.const (.string ⟨⟨[97, 35, 98, 10, 99]⟩⟩)), (.const (.string ⟨⟨[110, 110]⟩⟩)), (.tmp 0)], #[9, 9, 28]⟩) (some ((.tmp 1), false)),
  .run (.unOp .not 4 (.tmp 0)) (some ((.tmp 2), false)),
  .run (.pick (.tmp 3) (.const (.bool true)) (.tmp 0)) none,
  .run (.buildSlice 28 2 #[(0, (.const (.string ⟨⟨[105, 102]⟩⟩))), (1, (.const (.string ⟨⟨[120]⟩⟩)))]) (some ((.tmp 0), false)),
  .run (.call ⟨.value (.func 9), #[(.const (.string ⟨⟨[105, 102, 32, 120]⟩⟩)), (.const (.string ⟨⟨[110, 110]⟩⟩)), (.tmp 0)], #[9, 9, 28]⟩) (some ((.tmp 1), false)),
  .run (.unOp .not 4 (.tmp 0)) (some ((.tmp 2), false)),
  .run (.pick (.tmp 3) (.const (.bool true)) (.tmp 0)) none,
  .run (.call ⟨.value (.func 10), #[(.const (.int .i64 32)), (.const (.int .u8 97))], #[3, 5]⟩) (some ((.tmp 0), false)),
  .run (.call ⟨.value (.func 10), #[(.const (.int .i64 32)), (.const (.int .u8 97))], #[3, 5]⟩) (some ((.tmp 1), false)),
  .run (.buildSlice 28 1 #[(0, (.tmp 0))]) (some ((.tmp 2), false)),
  .run (.call ⟨.value (.func 9), #[(.tmp 2), (.const (.string ⟨⟨[110]⟩⟩)), (.tmp 0)], #[9, 9, 28]⟩) (some ((.tmp 3), false)),
  .run (.unOp .not 4 (.tmp 0)) (some ((.tmp 4), false)),
  .run (.pick (.tmp 5) (.const (.bool true)) (.tmp 0)) none,
  .run (.buildSlice 28 3 #[(0, (.const (.string ⟨⟨[49]⟩⟩))), (1, (.const (.string ⟨⟨[43]⟩⟩))), (2, (.const (.string ⟨⟨[50]⟩⟩)))]) (some ((.tmp 0), false)),
  .run (.call ⟨.value (.func 9), #[(.const (.string ⟨⟨[49, 43, 50]⟩⟩)), (.const (.string ⟨⟨[100, 115, 100]⟩⟩)), (.tmp 0)], #[9, 9, 28]⟩) (some ((.tmp 1), false)),
  .run (.unOp .not 4 (.tmp 0)) (some ((.tmp 2), false)),
  .run (.pick (.tmp 3) (.const (.bool true)) (.tmp 0)) none,
  .run (.buildSlice 28 3 #[(0, (.const (.string ⟨⟨[40]⟩⟩))), (1, (.const (.string ⟨⟨[49]⟩⟩))), (2, (.const (.string ⟨⟨[41]⟩⟩)))]) (some ((.tmp 0), false)),
  .run (.call ⟨.value (.func 9), #[(.const (.string ⟨⟨[40, 49, 41]⟩⟩)), (.const (.string ⟨⟨[115, 100, 115]⟩⟩)), (.tmp 0)], #[9, 9, 28]⟩) (some ((.tmp 1), false)),
  .run (.unOp .not 4 (.tmp 0)) (some ((.tmp 2), false)),
  .run (.pick (.tmp 3) (.const (.bool true)) (.tmp 0)) none] [(82, 0)]) (
.cond (.tmp 82) (
  .seq (
  .reg [.run (.assign (.const (.bool false))) none] [(0, 0)]) (
  .ret)) (
  .skip))) (
.seq (
.seq (
.reg [.run (.build 25 #[(0, (.const (.string ⟨⟨[124]⟩⟩))), (1, (.const (.int .i64 0)))]) none,
  .run (.build 25 #[(0, (.const (.string ⟨⟨[97, 32, 124, 98]⟩⟩))), (1, (.const (.int .i64 2)))]) none,
  .run (.build 25 #[(0, (.const (.string ⟨⟨[48, 48]⟩⟩))), (1, (.const (.int .i64 0)))]) none,
  .run (.build 25 #[(0, (.const (.string ⟨⟨[120, 32, 48, 49]⟩⟩))), (1, (.const (.int .i64 2)))]) none,
  .run (.build 25 #[(0, (.const (.string ⟨⟨[57, 50, 50, 51, 51, 55, 50, 48, 51, 54, 56, 53, 52, 55, 55, 53, 56, 48, 57]⟩⟩))), (1, (.const (.int .i64 0)))]) none,
  .run (.build 25 #[(0, (.const (.string ⟨⟨[49, 48, 48, 48, 48, 48, 48, 48, 48, 48, 48, 48, 48, 48, 48, 48, 48, 48, 48, 48]⟩⟩))), (1, (.const (.int .i64 0)))]) none,
  .run (.build 25 #[(0, (.const (.string ⟨⟨[49, 95]⟩⟩))), (1, (.const (.int .i64 0)))]) none,
  .run (.build 25 #[(0, (.const (.string ⟨⟨[49, 32, 50, 97]⟩⟩))), (1, (.const (.int .i64 2)))]) none,
  .run (.call ⟨.value (.func 10), #[(.const (.int .i64 33)), (.const (.int .u8 97))], #[3, 5]⟩) none,
  .run (.build 25 #[(0, (.tmp 0)), (1, (.const (.int .i64 0)))]) none,
  .run (.build 25 #[(0, (.const (.string ⟨⟨[120, 0]⟩⟩))), (1, (.const (.int .i64 1)))]) none,
  .run (.build 25 #[(0, (.const (.string ⟨⟨[13]⟩⟩))), (1, (.const (.int .i64 0)))]) none,
  .run (.build 25 #[(0, (.const (.string ⟨⟨[255]⟩⟩))), (1, (.const (.int .i64 0)))]) none,
  .run (.build 25 #[(0, (.const (.string ⟨⟨[97, 46, 98]⟩⟩))), (1, (.const (.int .i64 1)))]) none,
  .run (.build 25 #[(0, (.const (.string ⟨⟨[39]⟩⟩))), (1, (.const (.int .i64 0)))]) none,
  .run (.build 25 #[(0, (.const (.string ⟨⟨[48, 120, 49]⟩⟩))), (1, (.const (.int .i64 0)))]) none,
  .run (.build 25 #[(0, (.const (.string ⟨⟨[120, 32, 64, 32, 36]⟩⟩))), (1, (.const (.int .i64 2)))]) none,
  .run (.buildSlice 26 16 #[(0, (.tmp 16)), (1, (.tmp 15)), (2, (.tmp 14)), (3, (.tmp 13)), (4, (.tmp 12)), (5, (.tmp 11)), (6, (.tmp 10)), (7, (.tmp 9)), (8, (.tmp 7)), (9, (.tmp 6)), (10, (.tmp 5)), (11, (.tmp 4)), (12, (.tmp 3)), (13, (.tmp 2)), (14, (.tmp 1)), (15, (.tmp 0))]) none,
  .run (.call ⟨.builtin .len, #[(.tmp 0)], #[26]⟩) none,
  .run (.move (.const (.int .i64 0))) none] [(102, 0), (101, 1), (100, 2)]) (
.block 0 (
 .loop (
  .seq (
  .reg [.run (.binOp .lss 3 (.tmp (far + 102)) (.tmp (far + 101)) 3) none] [(103, 0)]) (
  .seq (
  .cond (.tmp 103) (
    .skip) (
    .exit 0)) (
  .seq (
  .block 1 (
   .seq (
   .reg [.run (.indexAddr 26 (.tmp (far + 100)) (.tmp (far + 102))) none,
     .run (.load 25 (.tmp 0)) none,
     .run (.alloc 25) none,
     .run (.store 25 (.tmp 0) (.tmp 1)) none] [(2, 1)]) (
   .seq (
   .reg [.run (.fieldAddr 25 (.tmp (far + 2)) 0) none,
     .run (.load 9 (.tmp 0)) none,
     .run (.fieldAddr 25 (.tmp (far + 2)) 1) none,
     .run (.load 3 (.tmp 0)) none,
     .run (.call ⟨.value (.func 11), #[(.tmp 2), (.tmp 0)], #[9, 3]⟩) none,
     .run (.unOp .not 4 (.tmp 0)) none] [(111, 0)]) (
   .cond (.tmp 111) (
     .seq (
     .reg [.run (.assign (.const (.bool false))) none] [(0, 0)]) (
     .ret)) (
     .skip))))) (
  .reg [.run (.binOp .add 3 (.tmp (far + 102)) (.const (.int .i64 1)) 3) none] [(102, 0)]))))))) (
.seq (
.seq (
.reg [.run (.buildSlice 28 15 #[(0, (.const (.string ⟨⟨[103, 108, 111, 98, 97, 108]⟩⟩))), (1, (.const (.string ⟨⟨[97, 114, 114, 97, 121]⟩⟩))), (2, (.const (.string ⟨⟨[108, 111, 99, 107]⟩⟩))), (3, (.const (.string ⟨⟨[102, 117, 110, 99]⟩⟩))), (4, (.const (.string ⟨⟨[116, 104, 114, 101, 97, 100]⟩⟩))), (5, (.const (.string ⟨⟨[118, 97, 114]⟩⟩))), (6, (.const (.string ⟨⟨[105, 102]⟩⟩))), (7, (.const (.string ⟨⟨[101, 108, 115, 101]⟩⟩))), (8, (.const (.string ⟨⟨[119, 104, 105, 108, 101]⟩⟩))), (9, (.const (.string ⟨⟨[119, 105, 116, 104]⟩⟩))), (10, (.const (.string ⟨⟨[112, 114, 105, 110, 116]⟩⟩))), (11, (.const (.string ⟨⟨[99, 97, 108, 108]⟩⟩))), (12, (.const (.string ⟨⟨[114, 101, 116, 117, 114, 110]⟩⟩))), (13, (.const (.string ⟨⟨[116, 114, 117, 101]⟩⟩))), (14, (.const (.string ⟨⟨[102, 97, 108, 115, 101]⟩⟩)))]) none,
  .run (.call ⟨.builtin .len, #[(.tmp 0)], #[28]⟩) none,
  .run (.move (.const (.int .i64 0))) none] [(115, 0), (114, 1), (113, 2)]) (
.block 2 (
 .loop (
  .seq (
  .reg [.run (.binOp .lss 3 (.tmp (far + 115)) (.tmp (far + 114)) 3) none] [(116, 0)]) (
  .seq (
  .cond (.tmp 116) (
    .skip) (
    .exit 2)) (
  .seq (
  .block 3 (
   .seq (
   .reg [.run (.indexAddr 28 (.tmp (far + 113)) (.tmp (far + 115))) none,
     .run (.load 9 (.tmp 0)) none] [(4, 0)]) (
   .seq (
   .reg [.get 4,
     .run (.call ⟨.value (.func 12), #[(.tmp 0)], #[9]⟩) none,
     .run (.unOp .not 4 (.tmp 0)) none,
     .run (.move (.tmp (far + 4))) (some ((.tmp 0), false)),
     .run (.call ⟨.value (.func 13), #[(.tmp 0)], #[9]⟩) (some ((.tmp 1), false)),
     .run (.pick (.tmp 2) (.const (.bool true)) (.tmp 0)) none,
     .run (.move (.tmp (far + 4))) (some ((.tmp 0), false)),
     .run (.binOp .add 9 (.tmp 0) (.const (.string ⟨⟨[115]⟩⟩)) 9) (some ((.tmp 1), false)),
     .run (.call ⟨.value (.func 12), #[(.tmp 0)], #[9]⟩) (some ((.tmp 2), false)),
     .run (.pick (.tmp 3) (.const (.bool true)) (.tmp 0)) none,
     .run (.move (.tmp (far + 4))) (some ((.tmp 0), false)),
     .run (.binOp .add 9 (.tmp 0) (.const (.string ⟨⟨[115]⟩⟩)) 9) (some ((.tmp 1), false)),
     .run (.call ⟨.value (.func 13), #[(.tmp 0)], #[9]⟩) (some ((.tmp 2), false)),
     .run (.unOp .not 4 (.tmp 0)) (some ((.tmp 3), false)),
     .run (.pick (.tmp 4) (.const (.bool true)) (.tmp 0)) none] [(136, 0)]) (
   .cond (.tmp 136) (
     .seq (
     .reg [.run (.assign (.const (.bool false))) none] [(0, 0)]) (
     .ret)) (
     .skip))))) (
  .reg [.run (.binOp .add 3 (.tmp (far + 115)) (.const (.int .i64 1)) 3) none] [(115, 0)]))))))) (
.seq (
.reg [.run (.call ⟨.value (.func 10), #[(.const (.int .i64 65537)), (.const (.int .u8 36))], #[3, 5]⟩) none,
  .run (.call ⟨.value (.func 14), #[(.tmp 0)], #[9]⟩) none,
  .run (.extract (.tmp 0) 0) none,
  .run (.extract (.tmp 1) 1) none,
  .run (.extract (.tmp 2) 2) none] [(7, 0), (6, 1)]) (
.seq (
.reg [.run (.call ⟨.value (.func 10), #[(.const (.int .i64 65536)), (.const (.int .u8 32))], #[3, 5]⟩) none,
  .run (.call ⟨.value (.func 14), #[(.tmp 0)], #[9]⟩) none,
  .run (.extract (.tmp 0) 0) none,
  .run (.extract (.tmp 1) 1) none,
  .run (.extract (.tmp 2) 2) none] [(10, 0), (8, 2)]) (
.seq (
.reg [.get 6,
  .run (.binOp .eql 3 (.tmp 0) (.const (.int .i64 0)) 3) none,
  .run (.move (.tmp (far + 7))) (some ((.tmp 0), true)),
  .run (.binOp .eql 31 (.tmp 0) (.const (.int .i64 40)) 31) (some ((.tmp 1), true)),
  .run (.pick (.tmp 2) (.tmp 0) (.const (.bool false))) none,
  .run (.move (.tmp (far + 10))) (some ((.tmp 0), true)),
  .run (.binOp .eql 31 (.tmp 0) (.const (.int .i64 0)) 31) (some ((.tmp 1), true)),
  .run (.pick (.tmp 2) (.tmp 0) (.const (.bool false))) none,
  .run (.move (.tmp (far + 8))) (some ((.tmp 0), true)),
  .run (.call ⟨.builtin .len, #[(.tmp 0)], #[30]⟩) (some ((.tmp 1), true)),
  .run (.binOp .eql 3 (.tmp 0) (.const (.int .i64 0)) 3) (some ((.tmp 2), true)),
  .run (.pick (.tmp 3) (.tmp 0) (.const (.bool false))) none,
  .run (.call ⟨.value (.func 13), #[(.const (.string ⟨⟨[]⟩⟩))], #[9]⟩) (some ((.tmp 0), true)),
  .run (.unOp .not 4 (.tmp 0)) (some ((.tmp 1), true)),
  .run (.pick (.tmp 2) (.tmp 0) (.const (.bool false))) none,
  .run (.call ⟨.value (.func 13), #[(.const (.string ⟨⟨[49, 97]⟩⟩))], #[9]⟩) (some ((.tmp 0), true)),
  .run (.unOp .not 4 (.tmp 0)) (some ((.tmp 1), true)),
  .run (.pick (.tmp 2) (.tmp 0) (.const (.bool false))) none,
  .run (.call ⟨.value (.func 13), #[(.const (.string ⟨⟨[97, 32, 98]⟩⟩))], #[9]⟩) (some ((.tmp 0), true)),
  .run (.unOp .not 4 (.tmp 0)) (some ((.tmp 1), true)),
  .run (.pick (.tmp 2) (.tmp 0) (.const (.bool false))) none,
  .run (.call ⟨.value (.func 10), #[(.const (.int .i64 33)), (.const (.int .u8 97))], #[3, 5]⟩) (some ((.tmp 0), true)),
  .run (.call ⟨.value (.func 13), #[(.tmp 0)], #[9]⟩) (some ((.tmp 1), true)),
  .run (.unOp .not 4 (.tmp 0)) (some ((.tmp 2), true)),
  .run (.pick (.tmp 3) (.tmp 0) (.const (.bool false))) none,
  .run (.call ⟨.value (.func 10), #[(.const (.int .i64 32)), (.const (.int .u8 95))], #[3, 5]⟩) (some ((.tmp 0), true)),
  .run (.call ⟨.value (.func 13), #[(.tmp 0)], #[9]⟩) (some ((.tmp 1), true)),
  .run (.pick (.tmp 2) (.tmp 0) (.const (.bool false))) none] [(0, 0)]) (
.ret)))))))))
theorem fn_law01_LexNames : V.F 3 = some Tryd.f3 := by kernel_rfl
theorem is_law01_LexNames : (V.F 3).isSome = true := by rw [fn_law01_LexNames]; rfl
noncomputable def c_law01_LexNames : Code := match Tryd.f3.body with
  | some c => c
  | none => .skip
theorem b_law01_LexNames : Tryd.f3.body = some c_law01_LexNames := rfl
theorem pc_law01_LexNames : pcOf V Tryd.f3.ntmps (some (liveOf Tryd.f3 c_law01_LexNames)) c_law01_LexNames = some P_law01_LexNames := by kernel_rfl
theorem Lc.law01_LexNames {O : Orc} {vs : List Value} {H : AH} {R : Value → AH → Prop} (ho : O 3 vs H = none) (hlen : vs.length ≤ Tryd.f3.ntmps) (hlive : (List.range vs.length).all (isLive (some (liveOf Tryd.f3 c_law01_LexNames))) = true)
    (h : WP V O (some (liveOf Tryd.f3 c_law01_LexNames)) Tryd.f3.ntmps P_law01_LexNames (initL vs 0) H fun e l H' => (e = .normal ∨ e = .ret) ∧ ∃ rs, resL V l H' Tryd.f3.results.toList = some rs ∧ R (resOf rs) H') : ∃ v H', Lc V O 3 vs H v H' ∧ R v H' :=
  Lc.fnP ho fn_law01_LexNames b_law01_LexNames pc_law01_LexNames hlen hlive h
/- bobbin/bobbinlaw01.works -/
abbrev F_law01_works : FuncId := 8
def P_law01_works : PC :=
.seq (
.reg [.run (.assign (.const (.bool false))) none] [(0, 0)]) (
.seq (
.reg [.run (.buildSlice 28 5 #[(0, (.const (.string ⟨⟨[120, 49]⟩⟩))), (1, (.const (.string ⟨⟨[61]⟩⟩))), (2, (.const (.string ⟨⟨[45]⟩⟩))), (3, (.const (.string ⟨⟨[50]⟩⟩))), (4, (.const (.string ⟨⟨[59]⟩⟩)))]) none,
  .run (.call ⟨.value (.func 9), #[(.const (.string ⟨⟨[120, 49, 61, 45, 50, 59, 35, 121]⟩⟩)), (.const (.string ⟨⟨[110, 115, 115, 100, 115]⟩⟩)), (.tmp 0)], #[9, 9, 28]⟩) none,
  .run (.buildSlice 28 5 #[(0, (.const (.string ⟨⟨[97]⟩⟩))), (1, (.const (.string ⟨⟨[60, 61]⟩⟩))), (2, (.const (.string ⟨⟨[98]⟩⟩))), (3, (.const (.string ⟨⟨[124, 124]⟩⟩))), (4, (.const (.string ⟨⟨[99]⟩⟩)))]) (some ((.tmp 0), true)),
  .run (.call ⟨.value (.func 9), #[(.const (.string ⟨⟨[97, 60, 61, 98, 124, 124, 99]⟩⟩)), (.const (.string ⟨⟨[110, 115, 110, 115, 110]⟩⟩)), (.tmp 0)], #[9, 9, 28]⟩) (some ((.tmp 1), true)),
  .run (.pick (.tmp 2) (.tmp 0) (.const (.bool false))) none,
  .run (.call ⟨.value (.func 11), #[(.const (.string ⟨⟨[48, 48, 55]⟩⟩)), (.const (.int .i64 0))], #[9, 3]⟩) (some ((.tmp 0), true)),
  .run (.pick (.tmp 1) (.tmp 0) (.const (.bool false))) none,
  .run (.call ⟨.value (.func 11), #[(.const (.string ⟨⟨[49, 120]⟩⟩)), (.const (.int .i64 0))], #[9, 3]⟩) (some ((.tmp 0), true)),
  .run (.pick (.tmp 1) (.tmp 0) (.const (.bool false))) none,
  .run (.call ⟨.value (.func 11), #[(.const (.string ⟨⟨[97, 36]⟩⟩)), (.const (.int .i64 1))], #[9, 3]⟩) (some ((.tmp 0), true)),
  .run (.pick (.tmp 1) (.tmp 0) (.const (.bool false))) none,
  .run (.call ⟨.value (.func 11), #[(.const (.string ⟨⟨[97, 38, 98]⟩⟩)), (.const (.int .i64 1))], #[9, 3]⟩) (some ((.tmp 0), true)),
  .run (.pick (.tmp 1) (.tmp 0) (.const (.bool false))) none,
  .run (.call ⟨.value (.func 13), #[(.const (.string ⟨⟨[120, 49]⟩⟩))], #[9]⟩) (some ((.tmp 0), true)),
  .run (.pick (.tmp 1) (.tmp 0) (.const (.bool false))) none,
  .run (.call ⟨.value (.func 13), #[(.const (.string ⟨⟨[105, 102]⟩⟩))], #[9]⟩) (some ((.tmp 0), true)),
  .run (.unOp .not 4 (.tmp 0)) (some ((.tmp 1), true)),
  .run (.pick (.tmp 2) (.tmp 0) (.const (.bool false))) none] [(0, 0)]) (
.ret))
theorem fn_law01_works : V.F 8 = some Tryd.f8 := by kernel_rfl
theorem is_law01_works : (V.F 8).isSome = true := by rw [fn_law01_works]; rfl
noncomputable def c_law01_works : Code := match Tryd.f8.body with
  | some c => c
  | none => .skip
theorem b_law01_works : Tryd.f8.body = some c_law01_works := rfl
theorem pc_law01_works : pcOf V Tryd.f8.ntmps (some (liveOf Tryd.f8 c_law01_works)) c_law01_works = some P_law01_works := by kernel_rfl
theorem Lc.law01_works {O : Orc} {vs : List Value} {H : AH} {R : Value → AH → Prop} (ho : O 8 vs H = none) (hlen : vs.length ≤ Tryd.f8.ntmps) (hlive : (List.range vs.length).all (isLive (some (liveOf Tryd.f8 c_law01_works))) = true)
    (h : WP V O (some (liveOf Tryd.f8 c_law01_works)) Tryd.f8.ntmps P_law01_works (initL vs 0) H fun e l H' => (e = .normal ∨ e = .ret) ∧ ∃ rs, resL V l H' Tryd.f8.results.toList = some rs ∧ R (resOf rs) H') : ∃ v H', Lc V O 8 vs H v H' ∧ R v H' :=
  Lc.fnP ho fn_law01_works b_law01_works pc_law01_works hlen hlive h
/- bobbin/bobbinlaw01.cut -/
abbrev F_law01_cut : FuncId := 9
def P_law01_cut : PC :=
.seq (
.reg [.run (.assign (.const (.bool false))) none] [(6, 0)]) (
.seq (
.reg [.get 0,
  .run (.call ⟨.value (.func 14), #[(.tmp 0)], #[9]⟩) none,
  .run (.extract (.tmp 0) 0) none,
  .run (.extract (.tmp 1) 1) none,
  .run (.extract (.tmp 2) 2) none] [(9, 0), (8, 1), (7, 2)]) (
.seq (
.seq (
.reg [.get 9,
  .run (.binOp .neq 31 (.tmp 0) (.const (.int .i64 0)) 31) none,
  .run (.move (.tmp (far + 8))) (some ((.tmp 0), false)),
  .run (.binOp .neq 3 (.tmp 0) (.const (.int .i64 0)) 3) (some ((.tmp 1), false)),
  .run (.pick (.tmp 2) (.const (.bool true)) (.tmp 0)) none,
  .run (.move (.tmp (far + 7))) (some ((.tmp 0), false)),
  .run (.call ⟨.builtin .len, #[(.tmp 0)], #[30]⟩) (some ((.tmp 1), false)),
  .run (.move (.tmp (far + 2))) (some ((.tmp 2), false)),
  .run (.call ⟨.builtin .len, #[(.tmp 0)], #[28]⟩) (some ((.tmp 3), false)),
  .run (.binOp .neq 3 (.tmp 2) (.tmp 0) 3) (some ((.tmp 4), false)),
  .run (.pick (.tmp 5) (.const (.bool true)) (.tmp 0)) none,
  .run (.move (.tmp (far + 1))) (some ((.tmp 0), false)),
  .run (.call ⟨.builtin .len, #[(.tmp 0)], #[9]⟩) (some ((.tmp 1), false)),
  .run (.move (.tmp (far + 2))) (some ((.tmp 2), false)),
  .run (.call ⟨.builtin .len, #[(.tmp 0)], #[28]⟩) (some ((.tmp 3), false)),
  .run (.binOp .neq 3 (.tmp 2) (.tmp 0) 3) (some ((.tmp 4), false)),
  .run (.pick (.tmp 5) (.const (.bool true)) (.tmp 0)) none] [(37, 0)]) (
.cond (.tmp 37) (
  .seq (
  .reg [.run (.assign (.const (.bool false))) none] [(6, 0)]) (
  .ret)) (
  .skip))) (
.seq (
.seq (
.reg [.run (.assign (.const (.int .i64 0))) none] [(10, 0)]) (
.block 0 (
 .loop (
  .seq (
  .seq (
  .reg [.get 10,
    .get 7,
    .run (.call ⟨.builtin .len, #[(.tmp 0)], #[30]⟩) none,
    .run (.binOp .lss 3 (.tmp 2) (.tmp 0) 3) none] [(41, 0)]) (
  .cond (.tmp 41) (
    .skip) (
    .exit 0))) (
  .seq (
  .block 1 (
   .seq (
   .reg [.run (.assign (.const (.int .u8 3))) none] [(11, 0)]) (
   .seq (
   .seq (
   .reg [.get 1,
     .get 10,
     .run (.index 9 (.tmp 1) (.tmp 0)) none] [(46, 0)]) (
   .block 2 (
    .seq (
    .reg [.run (.binOp .eql 5 (.tmp (far + 46)) (.const (.int .u8 110)) 5) none] [(47, 0)]) (
    .cond (.tmp 47) (
      .reg [.run (.assign (.const (.int .u8 1))) none] [(11, 0)]) (
      .seq (
      .reg [.run (.binOp .eql 5 (.tmp (far + 46)) (.const (.int .u8 100)) 5) none] [(49, 0)]) (
      .cond (.tmp 49) (
        .reg [.run (.assign (.const (.int .u8 2))) none] [(11, 0)]) (
        .skip))))))) (
   .seq (
   .reg [.get 7,
     .get 10,
     .run (.indexAddr 30 (.tmp 1) (.tmp 0)) none,
     .run (.fieldAddr 36 (.tmp 0) 0) none,
     .run (.load 5 (.tmp 0)) none,
     .get 11,
     .run (.binOp .neq 5 (.tmp 1) (.tmp 0) 5) none,
     .run (.move (.tmp (far + 7))) (some ((.tmp 0), false)),
     .run (.move (.tmp (far + 10))) (some ((.tmp 1), false)),
     .run (.indexAddr 30 (.tmp 1) (.tmp 0)) (some ((.tmp 2), false)),
     .run (.fieldAddr 36 (.tmp 0) 1) (some ((.tmp 3), false)),
     .run (.load 9 (.tmp 0)) (some ((.tmp 4), false)),
     .run (.move (.tmp (far + 2))) (some ((.tmp 5), false)),
     .run (.move (.tmp (far + 10))) (some ((.tmp 6), false)),
     .run (.indexAddr 28 (.tmp 1) (.tmp 0)) (some ((.tmp 7), false)),
     .run (.load 9 (.tmp 0)) (some ((.tmp 8), false)),
     .run (.binOp .neq 9 (.tmp 4) (.tmp 0) 9) (some ((.tmp 9), false)),
     .run (.pick (.tmp 10) (.const (.bool true)) (.tmp 0)) none,
     .run (.move (.tmp (far + 0))) (some ((.tmp 0), false)),
     .run (.move (.tmp (far + 7))) (some ((.tmp 1), false)),
     .run (.move (.tmp (far + 10))) (some ((.tmp 2), false)),
     .run (.indexAddr 30 (.tmp 1) (.tmp 0)) (some ((.tmp 3), false)),
     .run (.fieldAddr 36 (.tmp 0) 2) (some ((.tmp 4), false)),
     .run (.load 3 (.tmp 0)) (some ((.tmp 5), false)),
     .run (.move (.tmp (far + 7))) (some ((.tmp 6), false)),
     .run (.move (.tmp (far + 10))) (some ((.tmp 7), false)),
     .run (.indexAddr 30 (.tmp 1) (.tmp 0)) (some ((.tmp 8), false)),
     .run (.fieldAddr 36 (.tmp 0) 2) (some ((.tmp 9), false)),
     .run (.load 3 (.tmp 0)) (some ((.tmp 10), false)),
     .run (.move (.tmp (far + 2))) (some ((.tmp 11), false)),
     .run (.move (.tmp (far + 10))) (some ((.tmp 12), false)),
     .run (.indexAddr 28 (.tmp 1) (.tmp 0)) (some ((.tmp 13), false)),
     .run (.load 9 (.tmp 0)) (some ((.tmp 14), false)),
     .run (.call ⟨.builtin .len, #[(.tmp 0)], #[9]⟩) (some ((.tmp 15), false)),
     .run (.binOp .add 3 (.tmp 5) (.tmp 0) 3) (some ((.tmp 16), false)),
     .run (.slice 9 (.tmp 16) (some (.tmp 11)) (some (.tmp 0)) none) (some ((.tmp 17), false)),
     .run (.move (.tmp (far + 2))) (some ((.tmp 18), false)),
     .run (.move (.tmp (far + 10))) (some ((.tmp 19), false)),
     .run (.indexAddr 28 (.tmp 1) (.tmp 0)) (some ((.tmp 20), false)),
     .run (.load 9 (.tmp 0)) (some ((.tmp 21), false)),
     .run (.binOp .neq 9 (.tmp 4) (.tmp 0) 9) (some ((.tmp 22), false)),
     .run (.pick (.tmp 23) (.const (.bool true)) (.tmp 0)) none] [(94, 0)]) (
   .cond (.tmp 94) (
     .seq (
     .reg [.run (.assign (.const (.bool false))) none] [(6, 0)]) (
     .ret)) (
     .skip)))))) (
  .reg [.get 10,
    .run (.binOp .add 3 (.tmp 0) (.const (.int .i64 1)) 3) none] [(10, 0)])))))) (
.seq (
.reg [.run (.assign (.const (.bool true))) none] [(6, 0)]) (
.ret)))))
theorem fn_law01_cut : V.F 9 = some Tryd.f9 := by kernel_rfl
theorem is_law01_cut : (V.F 9).isSome = true := by rw [fn_law01_cut]; rfl
noncomputable def c_law01_cut : Code := match Tryd.f9.body with
  | some c => c
  | none => .skip
theorem b_law01_cut : Tryd.f9.body = some c_law01_cut := rfl
theorem pc_law01_cut : pcOf V Tryd.f9.ntmps (some (liveOf Tryd.f9 c_law01_cut)) c_law01_cut = some P_law01_cut := by kernel_rfl
theorem Lc.law01_cut {O : Orc} {vs : List Value} {H : AH} {R : Value → AH → Prop} (ho : O 9 vs H = none) (hlen : vs.length ≤ Tryd.f9.ntmps) (hlive : (List.range vs.length).all (isLive (some (liveOf Tryd.f9 c_law01_cut))) = true)
    (h : WP V O (some (liveOf Tryd.f9 c_law01_cut)) Tryd.f9.ntmps P_law01_cut (initL vs 0) H fun e l H' => (e = .normal ∨ e = .ret) ∧ ∃ rs, resL V l H' Tryd.f9.results.toList = some rs ∧ R (resOf rs) H') : ∃ v H', Lc V O 9 vs H v H' ∧ R v H' :=
  Lc.fnP ho fn_law01_cut b_law01_cut pc_law01_cut hlen hlive h
/- bobbin/bobbinlaw01.bad -/
abbrev F_law01_bad : FuncId := 11
def P_law01_bad : PC :=
.seq (
.reg [.run (.assign (.const (.bool false))) none] [(4, 0)]) (
.seq (
.reg [.get 0,
  .run (.call ⟨.value (.func 14), #[(.tmp 0)], #[9]⟩) none,
  .run (.extract (.tmp 0) 0) none,
  .run (.extract (.tmp 1) 1) none,
  .run (.extract (.tmp 2) 2) none] [(7, 0), (6, 1), (5, 2)]) (
.seq (
.reg [.get 5,
  .run (.call ⟨.builtin .len, #[(.tmp 0)], #[30]⟩) none,
  .run (.binOp .eql 3 (.tmp 0) (.const (.int .i64 0)) 3) none,
  .run (.move (.tmp (far + 6))) (some ((.tmp 0), true)),
  .run (.move (.tmp (far + 1))) (some ((.tmp 1), true)),
  .run (.binOp .eql 3 (.tmp 1) (.tmp 0) 3) (some ((.tmp 2), true)),
  .run (.pick (.tmp 3) (.tmp 0) (.const (.bool false))) none,
  .run (.move (.tmp (far + 7))) (some ((.tmp 0), true)),
  .run (.binOp .eql 31 (.tmp 0) (.const (.int .i64 63)) 31) (some ((.tmp 1), true)),
  .run (.pick (.tmp 2) (.tmp 0) (.const (.bool false))) none] [(4, 0)]) (
.ret)))
theorem fn_law01_bad : V.F 11 = some Tryd.f11 := by kernel_rfl
theorem is_law01_bad : (V.F 11).isSome = true := by rw [fn_law01_bad]; rfl
noncomputable def c_law01_bad : Code := match Tryd.f11.body with
  | some c => c
  | none => .skip
theorem b_law01_bad : Tryd.f11.body = some c_law01_bad := rfl
theorem pc_law01_bad : pcOf V Tryd.f11.ntmps (some (liveOf Tryd.f11 c_law01_bad)) c_law01_bad = some P_law01_bad := by kernel_rfl
theorem Lc.law01_bad {O : Orc} {vs : List Value} {H : AH} {R : Value → AH → Prop} (ho : O 11 vs H = none) (hlen : vs.length ≤ Tryd.f11.ntmps) (hlive : (List.range vs.length).all (isLive (some (liveOf Tryd.f11 c_law01_bad))) = true)
    (h : WP V O (some (liveOf Tryd.f11 c_law01_bad)) Tryd.f11.ntmps P_law01_bad (initL vs 0) H fun e l H' => (e = .normal ∨ e = .ret) ∧ ∃ rs, resL V l H' Tryd.f11.results.toList = some rs ∧ R (resOf rs) H') : ∃ v H', Lc V O 11 vs H v H' ∧ R v H' :=
  Lc.fnP ho fn_law01_bad b_law01_bad pc_law01_bad hlen hlive h
end Go.Proofs.YtdkfcpadbahohaaDoor.U

/-
  Contracts of the document's lex.
-/
namespace Go.Proofs.YtdkfcpadbahohaaDoor.U
open Go Go.Ev
attribute [local irreducible] WL WP WH W
variable {O : Orc} {H : AH}
theorem rletter_c (hO : ∀ f vs H, f ≠ 8 → O f vs H = none) {c : Int} : Lc V O F_ref01_letter [.int .u8 c] H (.bool (let_ c)) H := Lc.of_eq <| by
  refine Lc.ref01_letter (hO _ _ _ (by decide)) (Nat.le_of_ble_eq_true rfl) (by kernel_rfl) ?_
  unfold P_ref01_letter
  (repeat' first | refine zSeq ?_ | refine zReg ?_ | refine zBlk ?_ | refine zSkp ?_ | refine zExt ?_ | refine zNil rfl ?_ | refine zGet rfl ?_ | refine zOn rfl rfl ?_ | refine zOff rfl rfl ?_ | refine zU rfl ?_ | refine zOn rfl (by assumption) ?_ | refine zOff rfl (by assumption) ?_ | refine zMov rfl ?_ | refine zAsg rfl ?_ | refine zXtr rfl ?_ | refine zPT rfl rfl rfl ?_ | refine zPF rfl rfl rfl ?_ | refine zPT rfl (by assumption) rfl ?_ | refine zPF rfl (by assumption) rfl ?_ | refine zLss rfl rfl ?_ | refine zLeq rfl rfl ?_ | refine zGtr rfl rfl ?_ | refine zGeq rfl rfl ?_ | refine zEql rfl rfl ?_ | refine zNeq rfl rfl ?_ | refine zAdd rfl rfl (by omega) ?_ | refine zSub rfl rfl (by omega) ?_ | refine zLenS rfl E_string ?_ | refine zNot rfl ?_ | refine zEqS rfl rfl ?_ | refine zNeS rfl rfl ?_ | refine zT rfl rfl ?_ | refine zF rfl rfl ?_ | refine zT rfl (by assumption) ?_ | refine zF rfl (by assumption) ?_ | refine zLen rfl (hv.len E_s_string) ?_ | refine zGd rfl (fun _ => ?_) (fun _ => ?_) | refine zC rfl (fun _ => ?_) (fun _ => ?_)) <;> exact WP.ret ⟨.inr rfl, _, rfl, by simp_all [let_, resOf] <;> omega, rfl⟩
theorem rdigit_c (hO : ∀ f vs H, f ≠ 8 → O f vs H = none) {c : Int} : Lc V O F_ref01_digit [.int .u8 c] H (.bool (dig c)) H := Lc.of_eq <| by
  refine Lc.ref01_digit (hO _ _ _ (by decide)) (Nat.le_of_ble_eq_true rfl) (by kernel_rfl) ?_
  unfold P_ref01_digit
  (repeat' first | refine zSeq ?_ | refine zReg ?_ | refine zBlk ?_ | refine zSkp ?_ | refine zExt ?_ | refine zNil rfl ?_ | refine zGet rfl ?_ | refine zOn rfl rfl ?_ | refine zOff rfl rfl ?_ | refine zU rfl ?_ | refine zOn rfl (by assumption) ?_ | refine zOff rfl (by assumption) ?_ | refine zMov rfl ?_ | refine zAsg rfl ?_ | refine zXtr rfl ?_ | refine zPT rfl rfl rfl ?_ | refine zPF rfl rfl rfl ?_ | refine zPT rfl (by assumption) rfl ?_ | refine zPF rfl (by assumption) rfl ?_ | refine zLss rfl rfl ?_ | refine zLeq rfl rfl ?_ | refine zGtr rfl rfl ?_ | refine zGeq rfl rfl ?_ | refine zEql rfl rfl ?_ | refine zNeq rfl rfl ?_ | refine zAdd rfl rfl (by omega) ?_ | refine zSub rfl rfl (by omega) ?_ | refine zLenS rfl E_string ?_ | refine zNot rfl ?_ | refine zEqS rfl rfl ?_ | refine zNeS rfl rfl ?_ | refine zT rfl rfl ?_ | refine zF rfl rfl ?_ | refine zT rfl (by assumption) ?_ | refine zF rfl (by assumption) ?_ | refine zLen rfl (hv.len E_s_string) ?_ | refine zGd rfl (fun _ => ?_) (fun _ => ?_) | refine zC rfl (fun _ => ?_) (fun _ => ?_)) <;> exact WP.ret ⟨.inr rfl, _, rfl, by simp_all [dig, resOf] <;> omega, rfl⟩
def among (s : ByteArray) (strs : List ByteArray) : Bool := strs.any fun b => b.data.toList == s.data.toList
theorem among_c (hO : ∀ f vs H, f ≠ 8 → O f vs H = none) {v : Value} {strs : List ByteArray} (hv : Sl H v 1 strs.length (strs.map .string)) {s : ByteArray} : Lc V O F_ref01_among [.string s, v] H (.bool (among s strs)) H := Lc.of_eq <| by
  have hlen := hv.2.1
  refine Lc.ref01_among (hO _ _ _ (by decide)) (Nat.le_of_ble_eq_true rfl) (by kernel_rfl) ?_
  unfold P_ref01_among
  (repeat first | refine zSeq ?_ | refine zReg ?_ | refine zBlk ?_ | refine zSkp ?_ | refine zExt ?_ | refine zNil rfl ?_ | refine zGet rfl ?_ | refine zOn rfl rfl ?_ | refine zOff rfl rfl ?_ | refine zU rfl ?_ | refine zOn rfl (by assumption) ?_ | refine zOff rfl (by assumption) ?_ | refine zMov rfl ?_ | refine zAsg rfl ?_ | refine zXtr rfl ?_ | refine zPT rfl rfl rfl ?_ | refine zPF rfl rfl rfl ?_ | refine zPT rfl (by assumption) rfl ?_ | refine zPF rfl (by assumption) rfl ?_ | refine zLss rfl rfl ?_ | refine zLeq rfl rfl ?_ | refine zGtr rfl rfl ?_ | refine zGeq rfl rfl ?_ | refine zEql rfl rfl ?_ | refine zNeq rfl rfl ?_ | refine zAdd rfl rfl (by omega) ?_ | refine zSub rfl rfl (by omega) ?_ | refine zLenS rfl E_string ?_ | refine zNot rfl ?_ | refine zEqS rfl rfl ?_ | refine zNeS rfl rfl ?_ | refine zT rfl rfl ?_ | refine zF rfl rfl ?_ | refine zT rfl (by assumption) ?_ | refine zF rfl (by assumption) ?_ | refine zLen rfl (hv.len E_s_string) ?_)
  refine WP.loopH (σ := Nat) (fun i => [(0, .string s), (1, v), (5, .int .i64 i)]) (fun i H' => H = H' ∧ i ≤ strs.length ∧ among s strs = among s (strs.drop i)) (fun i => strs.length - i) 0 ⟨rfl, by simp, by simp⟩ ⟨rfl, rfl, rfl, trivial⟩ ?_
  rintro i _ ⟨rfl, hi, hp⟩
  (repeat first | refine zSeq ?_ | refine zReg ?_ | refine zBlk ?_ | refine zSkp ?_ | refine zExt ?_ | refine zNil rfl ?_ | refine zGet rfl ?_ | refine zOn rfl rfl ?_ | refine zOff rfl rfl ?_ | refine zU rfl ?_ | refine zOn rfl (by assumption) ?_ | refine zOff rfl (by assumption) ?_ | refine zMov rfl ?_ | refine zAsg rfl ?_ | refine zXtr rfl ?_ | refine zPT rfl rfl rfl ?_ | refine zPF rfl rfl rfl ?_ | refine zPT rfl (by assumption) rfl ?_ | refine zPF rfl (by assumption) rfl ?_ | refine zLss rfl rfl ?_ | refine zLeq rfl rfl ?_ | refine zGtr rfl rfl ?_ | refine zGeq rfl rfl ?_ | refine zEql rfl rfl ?_ | refine zNeq rfl rfl ?_ | refine zAdd rfl rfl (by omega) ?_ | refine zSub rfl rfl (by omega) ?_ | refine zLenS rfl E_string ?_ | refine zNot rfl ?_ | refine zEqS rfl rfl ?_ | refine zNeS rfl rfl ?_ | refine zT rfl rfl ?_ | refine zF rfl rfl ?_ | refine zT rfl (by assumption) ?_ | refine zF rfl (by assumption) ?_ | refine zLen rfl (hv.len E_s_string) ?_)
  rcases Decidable.em ((i : Int) < strs.length) with h | h
  · simp only [decide_eq_true h]
    have hlt : i < strs.length := by omega
    obtain ⟨b, off, ha, hr⟩ := hv.at1 E_s_string E_string rfl (kd := .i64) (i := i) (by omega) (c := .string strs[i]) (by simp [hlt])
    have hd : strs.drop i = strs[i] :: strs.drop (i + 1) := List.drop_eq_getElem_cons hlt
    (repeat first | refine zSeq ?_ | refine zReg ?_ | refine zBlk ?_ | refine zSkp ?_ | refine zExt ?_ | refine zNil rfl ?_ | refine zGet rfl ?_ | refine zOn rfl rfl ?_ | refine zOff rfl rfl ?_ | refine zU rfl ?_ | refine zOn rfl (by assumption) ?_ | refine zOff rfl (by assumption) ?_ | refine zMov rfl ?_ | refine zAsg rfl ?_ | refine zXtr rfl ?_ | refine zPT rfl rfl rfl ?_ | refine zPF rfl rfl rfl ?_ | refine zPT rfl (by assumption) rfl ?_ | refine zPF rfl (by assumption) rfl ?_ | refine zLss rfl rfl ?_ | refine zLeq rfl rfl ?_ | refine zGtr rfl rfl ?_ | refine zGeq rfl rfl ?_ | refine zEql rfl rfl ?_ | refine zNeq rfl rfl ?_ | refine zAdd rfl rfl (by omega) ?_ | refine zSub rfl rfl (by omega) ?_ | refine zLenS rfl E_string ?_ | refine zNot rfl ?_ | refine zEqS rfl rfl ?_ | refine zNeS rfl rfl ?_ | refine zT rfl rfl ?_ | refine zF rfl rfl ?_ | refine zT rfl (by assumption) ?_ | refine zF rfl (by assumption) ?_ | refine zLen rfl (hv.len E_s_string) ?_)
    refine WL.op (op_indexAddr rfl rfl ha) ?_
    refine WL.op (op_load rfl (hr.load1 E_string rfl)) ?_
    (repeat first | refine zSeq ?_ | refine zReg ?_ | refine zBlk ?_ | refine zSkp ?_ | refine zExt ?_ | refine zNil rfl ?_ | refine zGet rfl ?_ | refine zOn rfl rfl ?_ | refine zOff rfl rfl ?_ | refine zU rfl ?_ | refine zOn rfl (by assumption) ?_ | refine zOff rfl (by assumption) ?_ | refine zMov rfl ?_ | refine zAsg rfl ?_ | refine zXtr rfl ?_ | refine zPT rfl rfl rfl ?_ | refine zPF rfl rfl rfl ?_ | refine zPT rfl (by assumption) rfl ?_ | refine zPF rfl (by assumption) rfl ?_ | refine zLss rfl rfl ?_ | refine zLeq rfl rfl ?_ | refine zGtr rfl rfl ?_ | refine zGeq rfl rfl ?_ | refine zEql rfl rfl ?_ | refine zNeq rfl rfl ?_ | refine zAdd rfl rfl (by omega) ?_ | refine zSub rfl rfl (by omega) ?_ | refine zLenS rfl E_string ?_ | refine zNot rfl ?_ | refine zEqS rfl rfl ?_ | refine zNeS rfl rfl ?_ | refine zT rfl rfl ?_ | refine zF rfl rfl ?_ | refine zT rfl (by assumption) ?_ | refine zF rfl (by assumption) ?_ | refine zLen rfl (hv.len E_s_string) ?_)
    cases he : strs[i].data.toList == s.data.toList
    · (repeat first | refine zSeq ?_ | refine zReg ?_ | refine zBlk ?_ | refine zSkp ?_ | refine zExt ?_ | refine zNil rfl ?_ | refine zGet rfl ?_ | refine zOn rfl rfl ?_ | refine zOff rfl rfl ?_ | refine zU rfl ?_ | refine zOn rfl (by assumption) ?_ | refine zOff rfl (by assumption) ?_ | refine zMov rfl ?_ | refine zAsg rfl ?_ | refine zXtr rfl ?_ | refine zPT rfl rfl rfl ?_ | refine zPF rfl rfl rfl ?_ | refine zPT rfl (by assumption) rfl ?_ | refine zPF rfl (by assumption) rfl ?_ | refine zLss rfl rfl ?_ | refine zLeq rfl rfl ?_ | refine zGtr rfl rfl ?_ | refine zGeq rfl rfl ?_ | refine zEql rfl rfl ?_ | refine zNeq rfl rfl ?_ | refine zAdd rfl rfl (by omega) ?_ | refine zSub rfl rfl (by omega) ?_ | refine zLenS rfl E_string ?_ | refine zNot rfl ?_ | refine zEqS rfl rfl ?_ | refine zNeS rfl rfl ?_ | refine zT rfl rfl ?_ | refine zF rfl rfl ?_ | refine zT rfl (by assumption) ?_ | refine zF rfl (by assumption) ?_ | refine zLen rfl (hv.len E_s_string) ?_)
      refine ⟨i + 1, ⟨rfl, by omega, ?_⟩, by omega, ⟨rfl, rfl, rfl, trivial⟩⟩
      rw [hp, hd]; simp only [among, List.any_cons, he, Bool.false_or]
    · (repeat first | refine zSeq ?_ | refine zReg ?_ | refine zBlk ?_ | refine zSkp ?_ | refine zExt ?_ | refine zNil rfl ?_ | refine zGet rfl ?_ | refine zOn rfl rfl ?_ | refine zOff rfl rfl ?_ | refine zU rfl ?_ | refine zOn rfl (by assumption) ?_ | refine zOff rfl (by assumption) ?_ | refine zMov rfl ?_ | refine zAsg rfl ?_ | refine zXtr rfl ?_ | refine zPT rfl rfl rfl ?_ | refine zPF rfl rfl rfl ?_ | refine zPT rfl (by assumption) rfl ?_ | refine zPF rfl (by assumption) rfl ?_ | refine zLss rfl rfl ?_ | refine zLeq rfl rfl ?_ | refine zGtr rfl rfl ?_ | refine zGeq rfl rfl ?_ | refine zEql rfl rfl ?_ | refine zNeq rfl rfl ?_ | refine zAdd rfl rfl (by omega) ?_ | refine zSub rfl rfl (by omega) ?_ | refine zLenS rfl E_string ?_ | refine zNot rfl ?_ | refine zEqS rfl rfl ?_ | refine zNeS rfl rfl ?_ | refine zT rfl rfl ?_ | refine zF rfl rfl ?_ | refine zT rfl (by assumption) ?_ | refine zF rfl (by assumption) ?_ | refine zLen rfl (hv.len E_s_string) ?_)
      refine WP.ret ⟨.inr rfl, _, rfl, ?_, rfl⟩
      rw [hp, hd]; simp only [among, List.any_cons, he, Bool.true_or]; rfl
  · simp only [decide_eq_false h]
    (repeat first | refine zSeq ?_ | refine zReg ?_ | refine zBlk ?_ | refine zSkp ?_ | refine zExt ?_ | refine zNil rfl ?_ | refine zGet rfl ?_ | refine zOn rfl rfl ?_ | refine zOff rfl rfl ?_ | refine zU rfl ?_ | refine zOn rfl (by assumption) ?_ | refine zOff rfl (by assumption) ?_ | refine zMov rfl ?_ | refine zAsg rfl ?_ | refine zXtr rfl ?_ | refine zPT rfl rfl rfl ?_ | refine zPF rfl rfl rfl ?_ | refine zPT rfl (by assumption) rfl ?_ | refine zPF rfl (by assumption) rfl ?_ | refine zLss rfl rfl ?_ | refine zLeq rfl rfl ?_ | refine zGtr rfl rfl ?_ | refine zGeq rfl rfl ?_ | refine zEql rfl rfl ?_ | refine zNeq rfl rfl ?_ | refine zAdd rfl rfl (by omega) ?_ | refine zSub rfl rfl (by omega) ?_ | refine zLenS rfl E_string ?_ | refine zNot rfl ?_ | refine zEqS rfl rfl ?_ | refine zNeS rfl rfl ?_ | refine zT rfl rfl ?_ | refine zF rfl rfl ?_ | refine zT rfl (by assumption) ?_ | refine zF rfl (by assumption) ?_ | refine zLen rfl (hv.len E_s_string) ?_)
    refine WP.ret ⟨.inr rfl, _, rfl, ?_, rfl⟩
    rw [hp, List.drop_eq_nil_iff.2 (by omega)]; rfl
theorem rreserved_c (hO : ∀ f vs H, f ≠ 8 → O f vs H = none) {s : ByteArray} : ∃ H', Lc V O F_ref01_Reserved [.string s] H (.bool (resv s)) H' ∧ Fr H H' := by
  have key : ∃ u H', Lc V O F_ref01_Reserved [.string s] H u H' ∧ (u = .bool (resv s) ∧ Fr H H') := by
    refine Lc.ref01_Reserved (hO _ _ _ (by decide)) (Nat.le_of_ble_eq_true rfl) (by kernel_rfl) ?_
    unfold P_ref01_Reserved
    (repeat first | refine zSeq ?_ | refine zReg ?_ | refine zBlk ?_ | refine zSkp ?_ | refine zExt ?_ | refine zNil rfl ?_ | refine zGet rfl ?_ | refine zOn rfl rfl ?_ | refine zOff rfl rfl ?_ | refine zU rfl ?_ | refine zOn rfl (by assumption) ?_ | refine zOff rfl (by assumption) ?_ | refine zMov rfl ?_ | refine zAsg rfl ?_ | refine zXtr rfl ?_ | refine zPT rfl rfl rfl ?_ | refine zPF rfl rfl rfl ?_ | refine zPT rfl (by assumption) rfl ?_ | refine zPF rfl (by assumption) rfl ?_ | refine zLss rfl rfl ?_ | refine zLeq rfl rfl ?_ | refine zGtr rfl rfl ?_ | refine zGeq rfl rfl ?_ | refine zEql rfl rfl ?_ | refine zNeq rfl rfl ?_ | refine zAdd rfl rfl (by omega) ?_ | refine zSub rfl rfl (by omega) ?_ | refine zLenS rfl E_string ?_ | refine zNot rfl ?_ | refine zEqS rfl rfl ?_ | refine zNeS rfl rfl ?_ | refine zT rfl rfl ?_ | refine zF rfl rfl ?_ | refine zT rfl (by assumption) ?_ | refine zF rfl (by assumption) ?_ | refine zLen rfl (hv.len E_s_string) ?_)
    refine WL.op (op_buildSlice rfl E_s_string E_string (by decide) rfl) ?_
    refine WL.call rfl rfl is_ref01_among (among_c hO (strs := words) (OneAt.toSl (by decide))) ?_
    (repeat first | refine zSeq ?_ | refine zReg ?_ | refine zBlk ?_ | refine zSkp ?_ | refine zExt ?_ | refine zNil rfl ?_ | refine zGet rfl ?_ | refine zOn rfl rfl ?_ | refine zOff rfl rfl ?_ | refine zU rfl ?_ | refine zOn rfl (by assumption) ?_ | refine zOff rfl (by assumption) ?_ | refine zMov rfl ?_ | refine zAsg rfl ?_ | refine zXtr rfl ?_ | refine zPT rfl rfl rfl ?_ | refine zPF rfl rfl rfl ?_ | refine zPT rfl (by assumption) rfl ?_ | refine zPF rfl (by assumption) rfl ?_ | refine zLss rfl rfl ?_ | refine zLeq rfl rfl ?_ | refine zGtr rfl rfl ?_ | refine zGeq rfl rfl ?_ | refine zEql rfl rfl ?_ | refine zNeq rfl rfl ?_ | refine zAdd rfl rfl (by omega) ?_ | refine zSub rfl rfl (by omega) ?_ | refine zLenS rfl E_string ?_ | refine zNot rfl ?_ | refine zEqS rfl rfl ?_ | refine zNeS rfl rfl ?_ | refine zT rfl rfl ?_ | refine zF rfl rfl ?_ | refine zT rfl (by assumption) ?_ | refine zF rfl (by assumption) ?_ | refine zLen rfl (hv.len E_s_string) ?_)
    refine WP.ret ⟨.inr rfl, _, rfl, ?_, .alloc _ _⟩
    have e : (fun b : ByteArray => b.data.toList == s.data.toList) = fun b => s.data.toList == b.data.toList := funext fun b => BEq.comm
    have : among s words = resv s := by unfold among resv; rw [e]
    rw [this]; rfl
  obtain ⟨u, H', h, rfl, hk⟩ := key
  exact ⟨H', h, hk⟩
def rname (s : ByteArray) : Bool := decide (0 < s.size) && decide (s.size ≤ 32) && !(dig ((s.data.toList.headD 0).toNat)) && s.data.toList.all (fun c => wd c.toNat) && !resv s
theorem rname_c (hO : ∀ f vs H, f ≠ 8 → O f vs H = none) {s : ByteArray} : ∃ H', Lc V O F_ref01_Name [.string s] H (.bool (rname s)) H' ∧ Fr H H' := by
  have hsz : s.size = s.data.toList.length := rfl
  obtain ⟨H1, hr, hk1⟩ := rreserved_c (H := H) hO (s := s)
  generalize hl : s.data.toList = l at hsz
  have key : ∃ u H', Lc V O F_ref01_Name [.string s] H u H' ∧ (u = .bool (rname s) ∧ Fr H H') := by
    refine Lc.ref01_Name (hO _ _ _ (by decide)) (Nat.le_of_ble_eq_true rfl) (by kernel_rfl) ?_
    unfold P_ref01_Name
    refine WP.seq ?_
    (repeat first | refine zReg ?_ | refine zSkp ?_ | refine zExt ?_ | refine zNil rfl ?_ | refine zGet rfl ?_ | refine zOn rfl rfl ?_ | refine zOff rfl rfl ?_ | refine zU rfl ?_ | refine zOn rfl (by assumption) ?_ | refine zOff rfl (by assumption) ?_ | refine zMov rfl ?_ | refine zAsg rfl ?_ | refine zXtr rfl ?_ | refine zPT rfl rfl rfl ?_ | refine zPF rfl rfl rfl ?_ | refine zPT rfl (by assumption) rfl ?_ | refine zPF rfl (by assumption) rfl ?_ | refine zLss rfl rfl ?_ | refine zLeq rfl rfl ?_ | refine zGtr rfl rfl ?_ | refine zGeq rfl rfl ?_ | refine zEql rfl rfl ?_ | refine zNeq rfl rfl ?_ | refine zAdd rfl rfl (by omega) ?_ | refine zSub rfl rfl (by omega) ?_ | refine zLenS rfl E_string ?_ | refine zNot rfl ?_ | refine zEqS rfl rfl ?_ | refine zNeS rfl rfl ?_ | refine zT rfl rfl ?_ | refine zF rfl rfl ?_ | refine zT rfl (by assumption) ?_ | refine zF rfl (by assumption) ?_ | refine zLen rfl (hv.len E_s_string) ?_)
    have hidx : 0 < l.length → s.data.toList[(0 : Int).toNat]? = some (l.headD 0) := fun h => by
      rw [hl]; cases l with
      | nil => simp at h
      | cons a b => rfl
    refine WP.seqS (σ := Unit) (fun _ => [(0, .string s)]) (fun _ H' => H = H' ∧ 0 < l.length ∧ l.length ≤ 32 ∧ dig ((l.headD 0).toNat) = false) ?_ ?_
    · refine WP.seq ?_
      rcases Nat.lt_or_ge 0 l.length with h0 | h0
      · have := hidx h0
        have hd0 : decide ((s.size : Int) < 1) = false := decide_eq_false (by omega)
        rcases Nat.lt_or_ge 32 l.length with h32 | h32
        · have hd : decide ((s.size : Int) > 32) = true := decide_eq_true (by omega)
          (repeat first | refine zSeq ?_ | refine zReg ?_ | refine zBlk ?_ | refine zSkp ?_ | refine zExt ?_ | refine zNil rfl ?_ | refine zGet rfl ?_ | refine zOn rfl rfl ?_ | refine zOff rfl rfl ?_ | refine zU rfl ?_ | refine zOn rfl (by assumption) ?_ | refine zOff rfl (by assumption) ?_ | refine zMov rfl ?_ | refine zAsg rfl ?_ | refine zXtr rfl ?_ | refine zPT rfl rfl rfl ?_ | refine zPF rfl rfl rfl ?_ | refine zPT rfl (by assumption) rfl ?_ | refine zPF rfl (by assumption) rfl ?_ | refine zLss rfl rfl ?_ | refine zLeq rfl rfl ?_ | refine zGtr rfl rfl ?_ | refine zGeq rfl rfl ?_ | refine zEql rfl rfl ?_ | refine zNeq rfl rfl ?_ | refine zAdd rfl rfl (by omega) ?_ | refine zSub rfl rfl (by omega) ?_ | refine zLenS rfl E_string ?_ | refine zNot rfl ?_ | refine zEqS rfl rfl ?_ | refine zNeS rfl rfl ?_ | refine zT rfl rfl ?_ | refine zF rfl rfl ?_ | refine zT rfl (by assumption) ?_ | refine zF rfl (by assumption) ?_ | refine zLen rfl (hv.len E_s_string) ?_)
          refine WP.ret ⟨.inr rfl, _, rfl, ?_, .refl _⟩
          have : decide (s.size ≤ 32) = false := decide_eq_false (by omega)
          simp only [rname, this, resOf, Bool.and_false, Bool.false_and]
        · have hd : decide ((s.size : Int) > 32) = false := decide_eq_false (by omega)
          (repeat first | refine zSeq ?_ | refine zReg ?_ | refine zBlk ?_ | refine zSkp ?_ | refine zExt ?_ | refine zNil rfl ?_ | refine zGet rfl ?_ | refine zOn rfl rfl ?_ | refine zOff rfl rfl ?_ | refine zU rfl ?_ | refine zOn rfl (by assumption) ?_ | refine zOff rfl (by assumption) ?_ | refine zMov rfl ?_ | refine zAsg rfl ?_ | refine zXtr rfl ?_ | refine zPT rfl rfl rfl ?_ | refine zPF rfl rfl rfl ?_ | refine zPT rfl (by assumption) rfl ?_ | refine zPF rfl (by assumption) rfl ?_ | refine zLss rfl rfl ?_ | refine zLeq rfl rfl ?_ | refine zGtr rfl rfl ?_ | refine zGeq rfl rfl ?_ | refine zEql rfl rfl ?_ | refine zNeq rfl rfl ?_ | refine zAdd rfl rfl (by omega) ?_ | refine zSub rfl rfl (by omega) ?_ | refine zLenS rfl E_string ?_ | refine zNot rfl ?_ | refine zEqS rfl rfl ?_ | refine zNeS rfl rfl ?_ | refine zT rfl rfl ?_ | refine zF rfl rfl ?_ | refine zT rfl (by assumption) ?_ | refine zF rfl (by assumption) ?_ | refine zLen rfl (hv.len E_s_string) ?_)
          refine WL.op (op_indexS rfl rfl E_string (by decide) this) ?_
          (repeat first | refine zSeq ?_ | refine zReg ?_ | refine zBlk ?_ | refine zSkp ?_ | refine zExt ?_ | refine zNil rfl ?_ | refine zGet rfl ?_ | refine zOn rfl rfl ?_ | refine zOff rfl rfl ?_ | refine zU rfl ?_ | refine zOn rfl (by assumption) ?_ | refine zOff rfl (by assumption) ?_ | refine zMov rfl ?_ | refine zAsg rfl ?_ | refine zXtr rfl ?_ | refine zPT rfl rfl rfl ?_ | refine zPF rfl rfl rfl ?_ | refine zPT rfl (by assumption) rfl ?_ | refine zPF rfl (by assumption) rfl ?_ | refine zLss rfl rfl ?_ | refine zLeq rfl rfl ?_ | refine zGtr rfl rfl ?_ | refine zGeq rfl rfl ?_ | refine zEql rfl rfl ?_ | refine zNeq rfl rfl ?_ | refine zAdd rfl rfl (by omega) ?_ | refine zSub rfl rfl (by omega) ?_ | refine zLenS rfl E_string ?_ | refine zNot rfl ?_ | refine zEqS rfl rfl ?_ | refine zNeS rfl rfl ?_ | refine zT rfl rfl ?_ | refine zF rfl rfl ?_ | refine zT rfl (by assumption) ?_ | refine zF rfl (by assumption) ?_ | refine zLen rfl (hv.len E_s_string) ?_)
          refine WL.call rfl rfl is_ref01_digit (rdigit_c hO) ?_
          cases hg : dig ((l.headD 0).toNat)
          · (repeat first | refine zSeq ?_ | refine zReg ?_ | refine zBlk ?_ | refine zSkp ?_ | refine zExt ?_ | refine zNil rfl ?_ | refine zGet rfl ?_ | refine zOn rfl rfl ?_ | refine zOff rfl rfl ?_ | refine zU rfl ?_ | refine zOn rfl (by assumption) ?_ | refine zOff rfl (by assumption) ?_ | refine zMov rfl ?_ | refine zAsg rfl ?_ | refine zXtr rfl ?_ | refine zPT rfl rfl rfl ?_ | refine zPF rfl rfl rfl ?_ | refine zPT rfl (by assumption) rfl ?_ | refine zPF rfl (by assumption) rfl ?_ | refine zLss rfl rfl ?_ | refine zLeq rfl rfl ?_ | refine zGtr rfl rfl ?_ | refine zGeq rfl rfl ?_ | refine zEql rfl rfl ?_ | refine zNeq rfl rfl ?_ | refine zAdd rfl rfl (by omega) ?_ | refine zSub rfl rfl (by omega) ?_ | refine zLenS rfl E_string ?_ | refine zNot rfl ?_ | refine zEqS rfl rfl ?_ | refine zNeS rfl rfl ?_ | refine zT rfl rfl ?_ | refine zF rfl rfl ?_ | refine zT rfl (by assumption) ?_ | refine zF rfl (by assumption) ?_ | refine zLen rfl (hv.len E_s_string) ?_)
            exact ⟨(), ⟨rfl, h0, h32, rfl⟩, ⟨rfl, trivial⟩⟩
          · (repeat first | refine zSeq ?_ | refine zReg ?_ | refine zBlk ?_ | refine zSkp ?_ | refine zExt ?_ | refine zNil rfl ?_ | refine zGet rfl ?_ | refine zOn rfl rfl ?_ | refine zOff rfl rfl ?_ | refine zU rfl ?_ | refine zOn rfl (by assumption) ?_ | refine zOff rfl (by assumption) ?_ | refine zMov rfl ?_ | refine zAsg rfl ?_ | refine zXtr rfl ?_ | refine zPT rfl rfl rfl ?_ | refine zPF rfl rfl rfl ?_ | refine zPT rfl (by assumption) rfl ?_ | refine zPF rfl (by assumption) rfl ?_ | refine zLss rfl rfl ?_ | refine zLeq rfl rfl ?_ | refine zGtr rfl rfl ?_ | refine zGeq rfl rfl ?_ | refine zEql rfl rfl ?_ | refine zNeq rfl rfl ?_ | refine zAdd rfl rfl (by omega) ?_ | refine zSub rfl rfl (by omega) ?_ | refine zLenS rfl E_string ?_ | refine zNot rfl ?_ | refine zEqS rfl rfl ?_ | refine zNeS rfl rfl ?_ | refine zT rfl rfl ?_ | refine zF rfl rfl ?_ | refine zT rfl (by assumption) ?_ | refine zF rfl (by assumption) ?_ | refine zLen rfl (hv.len E_s_string) ?_)
            refine WP.ret ⟨.inr rfl, _, rfl, ?_, .refl _⟩
            simp only [rname, hl, hg, resOf, Bool.not_true, Bool.and_false, Bool.false_and]
      · have hd0 : decide ((s.size : Int) < 1) = true := decide_eq_true (by omega)
        (repeat first | refine zSeq ?_ | refine zReg ?_ | refine zBlk ?_ | refine zSkp ?_ | refine zExt ?_ | refine zNil rfl ?_ | refine zGet rfl ?_ | refine zOn rfl rfl ?_ | refine zOff rfl rfl ?_ | refine zU rfl ?_ | refine zOn rfl (by assumption) ?_ | refine zOff rfl (by assumption) ?_ | refine zMov rfl ?_ | refine zAsg rfl ?_ | refine zXtr rfl ?_ | refine zPT rfl rfl rfl ?_ | refine zPF rfl rfl rfl ?_ | refine zPT rfl (by assumption) rfl ?_ | refine zPF rfl (by assumption) rfl ?_ | refine zLss rfl rfl ?_ | refine zLeq rfl rfl ?_ | refine zGtr rfl rfl ?_ | refine zGeq rfl rfl ?_ | refine zEql rfl rfl ?_ | refine zNeq rfl rfl ?_ | refine zAdd rfl rfl (by omega) ?_ | refine zSub rfl rfl (by omega) ?_ | refine zLenS rfl E_string ?_ | refine zNot rfl ?_ | refine zEqS rfl rfl ?_ | refine zNeS rfl rfl ?_ | refine zT rfl rfl ?_ | refine zF rfl rfl ?_ | refine zT rfl (by assumption) ?_ | refine zF rfl (by assumption) ?_ | refine zLen rfl (hv.len E_s_string) ?_)
        refine WP.ret ⟨.inr rfl, _, rfl, ?_, .refl _⟩
        have : decide (0 < s.size) = false := decide_eq_false (by omega)
        simp only [rname, this, resOf, Bool.and_false, Bool.false_and]
    · rintro _ _ ⟨rfl, h0, h32, hg⟩
      have hb : s.size ≤ maxLen := by have : maxLen = 9223372036854775807 := rfl; omega
      have e0 : decide (0 < s.size) = true := decide_eq_true (by omega)
      have e1 : decide (s.size ≤ 32) = true := decide_eq_true (by omega)
      refine WP.seqS (σ := Unit) (fun _ => [(0, .string s)]) (fun _ H' => H = H' ∧ l.all (fun c => wd c.toNat) = true) ?_ ?_
      · (repeat first | refine zSeq ?_ | refine zReg ?_ | refine zBlk ?_ | refine zSkp ?_ | refine zExt ?_ | refine zNil rfl ?_ | refine zGet rfl ?_ | refine zOn rfl rfl ?_ | refine zOff rfl rfl ?_ | refine zU rfl ?_ | refine zOn rfl (by assumption) ?_ | refine zOff rfl (by assumption) ?_ | refine zMov rfl ?_ | refine zAsg rfl ?_ | refine zXtr rfl ?_ | refine zPT rfl rfl rfl ?_ | refine zPF rfl rfl rfl ?_ | refine zPT rfl (by assumption) rfl ?_ | refine zPF rfl (by assumption) rfl ?_ | refine zLss rfl rfl ?_ | refine zLeq rfl rfl ?_ | refine zGtr rfl rfl ?_ | refine zGeq rfl rfl ?_ | refine zEql rfl rfl ?_ | refine zNeq rfl rfl ?_ | refine zAdd rfl rfl (by omega) ?_ | refine zSub rfl rfl (by omega) ?_ | refine zLenS rfl E_string ?_ | refine zNot rfl ?_ | refine zEqS rfl rfl ?_ | refine zNeS rfl rfl ?_ | refine zT rfl rfl ?_ | refine zF rfl rfl ?_ | refine zT rfl (by assumption) ?_ | refine zF rfl (by assumption) ?_ | refine zLen rfl (hv.len E_s_string) ?_)
        refine WP.loopH (σ := Nat) (fun i => [(0, .string s), (3, .int .i64 i)]) (fun i H' => H = H' ∧ i ≤ l.length ∧ l.all (fun c => wd c.toNat) = (l.drop i).all (fun c => wd c.toNat)) (fun i => l.length - i) 0 ⟨rfl, by simp, by simp⟩ ⟨rfl, rfl, trivial⟩ ?_
        rintro i _ ⟨rfl, hi, hp⟩
        rcases Nat.lt_or_ge i l.length with h | h
        · have hd : decide ((i : Int) < s.size) = true := decide_eq_true (by omega)
          have hdr : l.drop i = l[i] :: l.drop (i + 1) := List.drop_eq_getElem_cons h
          have hx : s.data.toList[(i : Int).toNat]? = some l[i] := by rw [hl]; simp [h]
          (repeat first | refine zSeq ?_ | refine zReg ?_ | refine zBlk ?_ | refine zSkp ?_ | refine zExt ?_ | refine zNil rfl ?_ | refine zGet rfl ?_ | refine zOn rfl rfl ?_ | refine zOff rfl rfl ?_ | refine zU rfl ?_ | refine zOn rfl (by assumption) ?_ | refine zOff rfl (by assumption) ?_ | refine zMov rfl ?_ | refine zAsg rfl ?_ | refine zXtr rfl ?_ | refine zPT rfl rfl rfl ?_ | refine zPF rfl rfl rfl ?_ | refine zPT rfl (by assumption) rfl ?_ | refine zPF rfl (by assumption) rfl ?_ | refine zLss rfl rfl ?_ | refine zLeq rfl rfl ?_ | refine zGtr rfl rfl ?_ | refine zGeq rfl rfl ?_ | refine zEql rfl rfl ?_ | refine zNeq rfl rfl ?_ | refine zAdd rfl rfl (by omega) ?_ | refine zSub rfl rfl (by omega) ?_ | refine zLenS rfl E_string ?_ | refine zNot rfl ?_ | refine zEqS rfl rfl ?_ | refine zNeS rfl rfl ?_ | refine zT rfl rfl ?_ | refine zF rfl rfl ?_ | refine zT rfl (by assumption) ?_ | refine zF rfl (by assumption) ?_ | refine zLen rfl (hv.len E_s_string) ?_)
          refine WL.op (op_indexS rfl rfl E_string (by omega) hx) ?_
          refine WL.call rfl rfl is_ref01_letter (rletter_c hO) ?_
          have fin : let_ l[i].toNat = false → dig l[i].toNat = false → rname s = false := fun h1 h2 => by
            have : l.all (fun c => wd c.toNat) = false := by rw [hp, hdr, List.all_cons]; simp only [wd, h1, h2]; rfl
            simp only [rname, hl, this, Bool.and_false, Bool.false_and]
          have step : wd l[i].toNat = true → ∃ s' : Nat, (H = H ∧ s' ≤ l.length ∧ l.all (fun c => wd c.toNat) = (l.drop s').all (fun c => wd c.toNat)) ∧ l.length - s' < l.length - i ∧ s' = i + 1 := fun h1 => by
            refine ⟨i + 1, ⟨rfl, by omega, ?_⟩, by omega, rfl⟩
            rw [hp, hdr, List.all_cons, h1, Bool.true_and]
          cases h1 : let_ l[i].toNat
          · refine WL.op (op_not rfl) ?_
            (repeat first | refine zSeq ?_ | refine zReg ?_ | refine zBlk ?_ | refine zSkp ?_ | refine zExt ?_ | refine zNil rfl ?_ | refine zGet rfl ?_ | refine zOn rfl rfl ?_ | refine zOff rfl rfl ?_ | refine zU rfl ?_ | refine zOn rfl (by assumption) ?_ | refine zOff rfl (by assumption) ?_ | refine zMov rfl ?_ | refine zAsg rfl ?_ | refine zXtr rfl ?_ | refine zPT rfl rfl rfl ?_ | refine zPF rfl rfl rfl ?_ | refine zPT rfl (by assumption) rfl ?_ | refine zPF rfl (by assumption) rfl ?_ | refine zLss rfl rfl ?_ | refine zLeq rfl rfl ?_ | refine zGtr rfl rfl ?_ | refine zGeq rfl rfl ?_ | refine zEql rfl rfl ?_ | refine zNeq rfl rfl ?_ | refine zAdd rfl rfl (by omega) ?_ | refine zSub rfl rfl (by omega) ?_ | refine zLenS rfl E_string ?_ | refine zNot rfl ?_ | refine zEqS rfl rfl ?_ | refine zNeS rfl rfl ?_ | refine zT rfl rfl ?_ | refine zF rfl rfl ?_ | refine zT rfl (by assumption) ?_ | refine zF rfl (by assumption) ?_ | refine zLen rfl (hv.len E_s_string) ?_)
            refine WL.op (op_indexS rfl rfl E_string (by omega) hx) ?_
            (repeat first | refine zSeq ?_ | refine zReg ?_ | refine zBlk ?_ | refine zSkp ?_ | refine zExt ?_ | refine zNil rfl ?_ | refine zGet rfl ?_ | refine zOn rfl rfl ?_ | refine zOff rfl rfl ?_ | refine zU rfl ?_ | refine zOn rfl (by assumption) ?_ | refine zOff rfl (by assumption) ?_ | refine zMov rfl ?_ | refine zAsg rfl ?_ | refine zXtr rfl ?_ | refine zPT rfl rfl rfl ?_ | refine zPF rfl rfl rfl ?_ | refine zPT rfl (by assumption) rfl ?_ | refine zPF rfl (by assumption) rfl ?_ | refine zLss rfl rfl ?_ | refine zLeq rfl rfl ?_ | refine zGtr rfl rfl ?_ | refine zGeq rfl rfl ?_ | refine zEql rfl rfl ?_ | refine zNeq rfl rfl ?_ | refine zAdd rfl rfl (by omega) ?_ | refine zSub rfl rfl (by omega) ?_ | refine zLenS rfl E_string ?_ | refine zNot rfl ?_ | refine zEqS rfl rfl ?_ | refine zNeS rfl rfl ?_ | refine zT rfl rfl ?_ | refine zF rfl rfl ?_ | refine zT rfl (by assumption) ?_ | refine zF rfl (by assumption) ?_ | refine zLen rfl (hv.len E_s_string) ?_)
            refine WL.call rfl rfl is_ref01_digit (rdigit_c hO) ?_
            cases h2 : dig l[i].toNat
            · (repeat first | refine zSeq ?_ | refine zReg ?_ | refine zBlk ?_ | refine zSkp ?_ | refine zExt ?_ | refine zNil rfl ?_ | refine zGet rfl ?_ | refine zOn rfl rfl ?_ | refine zOff rfl rfl ?_ | refine zU rfl ?_ | refine zOn rfl (by assumption) ?_ | refine zOff rfl (by assumption) ?_ | refine zMov rfl ?_ | refine zAsg rfl ?_ | refine zXtr rfl ?_ | refine zPT rfl rfl rfl ?_ | refine zPF rfl rfl rfl ?_ | refine zPT rfl (by assumption) rfl ?_ | refine zPF rfl (by assumption) rfl ?_ | refine zLss rfl rfl ?_ | refine zLeq rfl rfl ?_ | refine zGtr rfl rfl ?_ | refine zGeq rfl rfl ?_ | refine zEql rfl rfl ?_ | refine zNeq rfl rfl ?_ | refine zAdd rfl rfl (by omega) ?_ | refine zSub rfl rfl (by omega) ?_ | refine zLenS rfl E_string ?_ | refine zNot rfl ?_ | refine zEqS rfl rfl ?_ | refine zNeS rfl rfl ?_ | refine zT rfl rfl ?_ | refine zF rfl rfl ?_ | refine zT rfl (by assumption) ?_ | refine zF rfl (by assumption) ?_ | refine zLen rfl (hv.len E_s_string) ?_)
              exact WP.ret ⟨.inr rfl, _, rfl, by rw [fin h1 h2]; rfl, .refl _⟩
            · (repeat first | refine zSeq ?_ | refine zReg ?_ | refine zBlk ?_ | refine zSkp ?_ | refine zExt ?_ | refine zNil rfl ?_ | refine zGet rfl ?_ | refine zOn rfl rfl ?_ | refine zOff rfl rfl ?_ | refine zU rfl ?_ | refine zOn rfl (by assumption) ?_ | refine zOff rfl (by assumption) ?_ | refine zMov rfl ?_ | refine zAsg rfl ?_ | refine zXtr rfl ?_ | refine zPT rfl rfl rfl ?_ | refine zPF rfl rfl rfl ?_ | refine zPT rfl (by assumption) rfl ?_ | refine zPF rfl (by assumption) rfl ?_ | refine zLss rfl rfl ?_ | refine zLeq rfl rfl ?_ | refine zGtr rfl rfl ?_ | refine zGeq rfl rfl ?_ | refine zEql rfl rfl ?_ | refine zNeq rfl rfl ?_ | refine zAdd rfl rfl (by omega) ?_ | refine zSub rfl rfl (by omega) ?_ | refine zLenS rfl E_string ?_ | refine zNot rfl ?_ | refine zEqS rfl rfl ?_ | refine zNeS rfl rfl ?_ | refine zT rfl rfl ?_ | refine zF rfl rfl ?_ | refine zT rfl (by assumption) ?_ | refine zF rfl (by assumption) ?_ | refine zLen rfl (hv.len E_s_string) ?_)
              obtain ⟨s', q1, q2, rfl⟩ := step (by simp [wd, h2])
              exact ⟨i + 1, q1, q2, rfl, rfl, trivial⟩
          · (repeat first | refine zSeq ?_ | refine zReg ?_ | refine zBlk ?_ | refine zSkp ?_ | refine zExt ?_ | refine zNil rfl ?_ | refine zGet rfl ?_ | refine zOn rfl rfl ?_ | refine zOff rfl rfl ?_ | refine zU rfl ?_ | refine zOn rfl (by assumption) ?_ | refine zOff rfl (by assumption) ?_ | refine zMov rfl ?_ | refine zAsg rfl ?_ | refine zXtr rfl ?_ | refine zPT rfl rfl rfl ?_ | refine zPF rfl rfl rfl ?_ | refine zPT rfl (by assumption) rfl ?_ | refine zPF rfl (by assumption) rfl ?_ | refine zLss rfl rfl ?_ | refine zLeq rfl rfl ?_ | refine zGtr rfl rfl ?_ | refine zGeq rfl rfl ?_ | refine zEql rfl rfl ?_ | refine zNeq rfl rfl ?_ | refine zAdd rfl rfl (by omega) ?_ | refine zSub rfl rfl (by omega) ?_ | refine zLenS rfl E_string ?_ | refine zNot rfl ?_ | refine zEqS rfl rfl ?_ | refine zNeS rfl rfl ?_ | refine zT rfl rfl ?_ | refine zF rfl rfl ?_ | refine zT rfl (by assumption) ?_ | refine zF rfl (by assumption) ?_ | refine zLen rfl (hv.len E_s_string) ?_)
            obtain ⟨s', q1, q2, rfl⟩ := step (by simp [wd, h1])
            exact ⟨i + 1, q1, q2, rfl, rfl, trivial⟩
        · have hd : decide ((i : Int) < s.size) = false := decide_eq_false (by omega)
          (repeat first | refine zSeq ?_ | refine zReg ?_ | refine zBlk ?_ | refine zSkp ?_ | refine zExt ?_ | refine zNil rfl ?_ | refine zGet rfl ?_ | refine zOn rfl rfl ?_ | refine zOff rfl rfl ?_ | refine zU rfl ?_ | refine zOn rfl (by assumption) ?_ | refine zOff rfl (by assumption) ?_ | refine zMov rfl ?_ | refine zAsg rfl ?_ | refine zXtr rfl ?_ | refine zPT rfl rfl rfl ?_ | refine zPF rfl rfl rfl ?_ | refine zPT rfl (by assumption) rfl ?_ | refine zPF rfl (by assumption) rfl ?_ | refine zLss rfl rfl ?_ | refine zLeq rfl rfl ?_ | refine zGtr rfl rfl ?_ | refine zGeq rfl rfl ?_ | refine zEql rfl rfl ?_ | refine zNeq rfl rfl ?_ | refine zAdd rfl rfl (by omega) ?_ | refine zSub rfl rfl (by omega) ?_ | refine zLenS rfl E_string ?_ | refine zNot rfl ?_ | refine zEqS rfl rfl ?_ | refine zNeS rfl rfl ?_ | refine zT rfl rfl ?_ | refine zF rfl rfl ?_ | refine zT rfl (by assumption) ?_ | refine zF rfl (by assumption) ?_ | refine zLen rfl (hv.len E_s_string) ?_)
          refine ⟨(), ⟨rfl, ?_⟩, rfl, trivial⟩
          rw [hp, List.drop_eq_nil_iff.2 h]; rfl
      · rintro _ _ ⟨rfl, ha⟩
        (repeat first | refine zSeq ?_ | refine zReg ?_ | refine zBlk ?_ | refine zSkp ?_ | refine zExt ?_ | refine zNil rfl ?_ | refine zGet rfl ?_ | refine zOn rfl rfl ?_ | refine zOff rfl rfl ?_ | refine zU rfl ?_ | refine zOn rfl (by assumption) ?_ | refine zOff rfl (by assumption) ?_ | refine zMov rfl ?_ | refine zAsg rfl ?_ | refine zXtr rfl ?_ | refine zPT rfl rfl rfl ?_ | refine zPF rfl rfl rfl ?_ | refine zPT rfl (by assumption) rfl ?_ | refine zPF rfl (by assumption) rfl ?_ | refine zLss rfl rfl ?_ | refine zLeq rfl rfl ?_ | refine zGtr rfl rfl ?_ | refine zGeq rfl rfl ?_ | refine zEql rfl rfl ?_ | refine zNeq rfl rfl ?_ | refine zAdd rfl rfl (by omega) ?_ | refine zSub rfl rfl (by omega) ?_ | refine zLenS rfl E_string ?_ | refine zNot rfl ?_ | refine zEqS rfl rfl ?_ | refine zNeS rfl rfl ?_ | refine zT rfl rfl ?_ | refine zF rfl rfl ?_ | refine zT rfl (by assumption) ?_ | refine zF rfl (by assumption) ?_ | refine zLen rfl (hv.len E_s_string) ?_)
        refine WL.call rfl rfl is_ref01_Reserved hr ?_
        (repeat first | refine zSeq ?_ | refine zReg ?_ | refine zBlk ?_ | refine zSkp ?_ | refine zExt ?_ | refine zNil rfl ?_ | refine zGet rfl ?_ | refine zOn rfl rfl ?_ | refine zOff rfl rfl ?_ | refine zU rfl ?_ | refine zOn rfl (by assumption) ?_ | refine zOff rfl (by assumption) ?_ | refine zMov rfl ?_ | refine zAsg rfl ?_ | refine zXtr rfl ?_ | refine zPT rfl rfl rfl ?_ | refine zPF rfl rfl rfl ?_ | refine zPT rfl (by assumption) rfl ?_ | refine zPF rfl (by assumption) rfl ?_ | refine zLss rfl rfl ?_ | refine zLeq rfl rfl ?_ | refine zGtr rfl rfl ?_ | refine zGeq rfl rfl ?_ | refine zEql rfl rfl ?_ | refine zNeq rfl rfl ?_ | refine zAdd rfl rfl (by omega) ?_ | refine zSub rfl rfl (by omega) ?_ | refine zLenS rfl E_string ?_ | refine zNot rfl ?_ | refine zEqS rfl rfl ?_ | refine zNeS rfl rfl ?_ | refine zT rfl rfl ?_ | refine zF rfl rfl ?_ | refine zT rfl (by assumption) ?_ | refine zF rfl (by assumption) ?_ | refine zLen rfl (hv.len E_s_string) ?_)
        refine WP.ret ⟨.inr rfl, _, rfl, ?_, hk1⟩
        simp only [rname, hl, e0, e1, hg, ha, resOf, Bool.not_false, Bool.and_true, Bool.true_and]
  obtain ⟨u, H', h, rfl, hk⟩ := key
  exact ⟨H', h, hk⟩
end Go.Proofs.YtdkfcpadbahohaaDoor.U

/-
  Contracts of lex: tokens at a beginning.
-/
namespace Go.Proofs.YtdkfcpadbahohaaDoor.U
open Go Go.Ev
attribute [local irreducible] WL WP WH W
variable {O : Orc} {H : AH}
def lessB (a b : ByteArray) : Bool := Op.bytesLess a.toList b.toList || a.toList == b.toList
theorem aBin_leqS {P : Program} {E : TypeId → Option TI} {t : TypeId} {ox oy : Operand} {a b : ByteArray} : aBin P E .leq t ox oy (.string a) (.string b) = some (.bool (lessB a b)) := aBin_str rfl rfl
theorem op_leqS {g : Ft} {x y : Operand} {t u : TypeId} {a b : ByteArray} (hx : g x = some (.string a)) (hy : g y = some (.string b)) : aopG V g H (.binOp .leq t x y u) = some (.bool (lessB a b), H) := by
  simp only [aopG, hx, hy, aBin_leqS, Option.map_some]
def most : ByteArray := ⟨⟨[57, 50, 50, 51, 51, 55, 50, 48, 51, 54, 56, 53, 52, 55, 55, 53, 56, 48, 56]⟩⟩
def numB (s : ByteArray) : Bool := (s.data.toList == [48] || ((s.data.toList.headD 0).toNat : Int) != 48) && (decide ((s.size : Int) < 19) || ((s.size : Int) == 19 && lessB s most))
theorem number_c (hO : ∀ f vs H, f ≠ 8 → O f vs H = none) {s : ByteArray} (hne : 0 < s.size) : Lc V O F_lex_number [.string s] H (.bool (numB s)) H := Lc.of_eq <| by
  have hsz : s.size = s.data.toList.length := rfl
  have hidx : s.data.toList[(0 : Int).toNat]? = some (s.data.toList.headD 0) := by
    cases hl : s.data.toList with
    | nil => rw [hl] at hsz; simp only [List.length_nil] at hsz; omega
    | cons a b => rfl
  refine Lc.lex_number (hO _ _ _ (by decide)) (Nat.le_of_ble_eq_true rfl) (by kernel_rfl) ?_
  unfold P_lex_number
  have fin : ∀ b : Bool, numB s = b → (resOf [Value.bool b] = .bool (numB s) ∧ H = H) := fun b h => by rw [h]; exact ⟨rfl, rfl⟩
  (repeat' first | refine zSeq ?_ | refine zReg ?_ | refine zBlk ?_ | refine zSkp ?_ | refine zExt ?_ | refine zNil rfl ?_ | refine zGet rfl ?_ | refine zOn rfl rfl ?_ | refine zOff rfl rfl ?_ | refine zU rfl ?_ | refine zOn rfl (by assumption) ?_ | refine zOff rfl (by assumption) ?_ | refine zMov rfl ?_ | refine zAsg rfl ?_ | refine zXtr rfl ?_ | refine zPT rfl rfl rfl ?_ | refine zPF rfl rfl rfl ?_ | refine zPT rfl (by assumption) rfl ?_ | refine zPF rfl (by assumption) rfl ?_ | refine zLss rfl rfl ?_ | refine zLeq rfl rfl ?_ | refine zGtr rfl rfl ?_ | refine zGeq rfl rfl ?_ | refine zEql rfl rfl ?_ | refine zNeq rfl rfl ?_ | refine zAdd rfl rfl (by omega) ?_ | refine zSub rfl rfl (by omega) ?_ | refine zLenS rfl E_string ?_ | refine zNot rfl ?_ | refine zEqS rfl rfl ?_ | refine zNeS rfl rfl ?_ | refine zT rfl rfl ?_ | refine zF rfl rfl ?_ | refine zT rfl (by assumption) ?_ | refine zF rfl (by assumption) ?_ | refine zLen rfl (hv.len E_s_string) ?_ | refine WL.op (o := .index _ _ _) (op_indexS rfl rfl E_string (by decide) hidx) ?_ | refine WL.op (o := .binOp .leq _ _ _ _) (op_leqS rfl rfl) ?_ | refine zGd rfl (fun _ => ?_) (fun _ => ?_) | refine zC rfl (fun _ => ?_) (fun _ => ?_))
  all_goals refine WP.ret ⟨.inr rfl, _, rfl, fin _ ?_⟩
  all_goals clear hsz hidx fin
  all_goals first | (simp only [numB, *, Bool.not_true, Bool.not_false, Bool.true_or, Bool.or_true, Bool.false_or, Bool.or_false, Bool.true_and, Bool.and_true, Bool.false_and, Bool.and_false]; done) | (simp only [numB, *, Bool.not_true, Bool.not_false, Bool.true_or, Bool.or_true, Bool.false_or, Bool.or_false, Bool.true_and, Bool.and_true, Bool.false_and, Bool.and_false]; rfl)
def pre (s x : ByteArray) : Bool := decide (x.size ≤ s.size) && ((s.extract 0 x.size).data.toList == x.data.toList)
theorem prefix0_c (hO : ∀ f vs H, f ≠ 8 → O f vs H = none) {s x : ByteArray} : Lc V O F_internal_stringslite_HasPrefix [.string s, .string x] H (.bool (pre s x)) H := Lc.of_eq <| by
  refine Lc.internal_stringslite_HasPrefix (hO _ _ _ (by decide)) (Nat.le_of_ble_eq_true rfl) (by kernel_rfl) ?_
  unfold P_internal_stringslite_HasPrefix
  rcases Nat.lt_or_ge s.size x.size with h | h
  · have hd : decide ((s.size : Int) ≥ x.size) = false := decide_eq_false (by omega)
    (repeat first | refine zSeq ?_ | refine zReg ?_ | refine zBlk ?_ | refine zSkp ?_ | refine zExt ?_ | refine zNil rfl ?_ | refine zGet rfl ?_ | refine zOn rfl rfl ?_ | refine zOff rfl rfl ?_ | refine zU rfl ?_ | refine zOn rfl (by assumption) ?_ | refine zOff rfl (by assumption) ?_ | refine zMov rfl ?_ | refine zAsg rfl ?_ | refine zXtr rfl ?_ | refine zPT rfl rfl rfl ?_ | refine zPF rfl rfl rfl ?_ | refine zPT rfl (by assumption) rfl ?_ | refine zPF rfl (by assumption) rfl ?_ | refine zLss rfl rfl ?_ | refine zLeq rfl rfl ?_ | refine zGtr rfl rfl ?_ | refine zGeq rfl rfl ?_ | refine zEql rfl rfl ?_ | refine zNeq rfl rfl ?_ | refine zAdd rfl rfl (by omega) ?_ | refine zSub rfl rfl (by omega) ?_ | refine zLenS rfl E_string ?_ | refine zNot rfl ?_ | refine zEqS rfl rfl ?_ | refine zNeS rfl rfl ?_ | refine zT rfl rfl ?_ | refine zF rfl rfl ?_ | refine zT rfl (by assumption) ?_ | refine zF rfl (by assumption) ?_ | refine zLen rfl (hv.len E_s_string) ?_ | refine WL.op (o := .index _ _ _) (op_indexS rfl rfl E_string (by decide) hidx) ?_ | refine WL.op (o := .binOp .leq _ _ _ _) (op_leqS rfl rfl) ?_)
    refine WP.ret ⟨.inr rfl, _, rfl, ?_, rfl⟩
    rw [pre, decide_eq_false (by omega)]; rfl
  · have hd : decide ((s.size : Int) ≥ x.size) = true := decide_eq_true (by omega)
    (repeat first | refine zSeq ?_ | refine zReg ?_ | refine zBlk ?_ | refine zSkp ?_ | refine zExt ?_ | refine zNil rfl ?_ | refine zGet rfl ?_ | refine zOn rfl rfl ?_ | refine zOff rfl rfl ?_ | refine zU rfl ?_ | refine zOn rfl (by assumption) ?_ | refine zOff rfl (by assumption) ?_ | refine zMov rfl ?_ | refine zAsg rfl ?_ | refine zXtr rfl ?_ | refine zPT rfl rfl rfl ?_ | refine zPF rfl rfl rfl ?_ | refine zPT rfl (by assumption) rfl ?_ | refine zPF rfl (by assumption) rfl ?_ | refine zLss rfl rfl ?_ | refine zLeq rfl rfl ?_ | refine zGtr rfl rfl ?_ | refine zGeq rfl rfl ?_ | refine zEql rfl rfl ?_ | refine zNeq rfl rfl ?_ | refine zAdd rfl rfl (by omega) ?_ | refine zSub rfl rfl (by omega) ?_ | refine zLenS rfl E_string ?_ | refine zNot rfl ?_ | refine zEqS rfl rfl ?_ | refine zNeS rfl rfl ?_ | refine zT rfl rfl ?_ | refine zF rfl rfl ?_ | refine zT rfl (by assumption) ?_ | refine zF rfl (by assumption) ?_ | refine zLen rfl (hv.len E_s_string) ?_ | refine WL.op (o := .index _ _ _) (op_indexS rfl rfl E_string (by decide) hidx) ?_ | refine WL.op (o := .binOp .leq _ _ _ _) (op_leqS rfl rfl) ?_)
    refine WL.op (op_sliceH rfl rfl E_string (by omega) (by omega)) ?_
    (repeat first | refine zSeq ?_ | refine zReg ?_ | refine zBlk ?_ | refine zSkp ?_ | refine zExt ?_ | refine zNil rfl ?_ | refine zGet rfl ?_ | refine zOn rfl rfl ?_ | refine zOff rfl rfl ?_ | refine zU rfl ?_ | refine zOn rfl (by assumption) ?_ | refine zOff rfl (by assumption) ?_ | refine zMov rfl ?_ | refine zAsg rfl ?_ | refine zXtr rfl ?_ | refine zPT rfl rfl rfl ?_ | refine zPF rfl rfl rfl ?_ | refine zPT rfl (by assumption) rfl ?_ | refine zPF rfl (by assumption) rfl ?_ | refine zLss rfl rfl ?_ | refine zLeq rfl rfl ?_ | refine zGtr rfl rfl ?_ | refine zGeq rfl rfl ?_ | refine zEql rfl rfl ?_ | refine zNeq rfl rfl ?_ | refine zAdd rfl rfl (by omega) ?_ | refine zSub rfl rfl (by omega) ?_ | refine zLenS rfl E_string ?_ | refine zNot rfl ?_ | refine zEqS rfl rfl ?_ | refine zNeS rfl rfl ?_ | refine zT rfl rfl ?_ | refine zF rfl rfl ?_ | refine zT rfl (by assumption) ?_ | refine zF rfl (by assumption) ?_ | refine zLen rfl (hv.len E_s_string) ?_ | refine WL.op (o := .index _ _ _) (op_indexS rfl rfl E_string (by decide) hidx) ?_ | refine WL.op (o := .binOp .leq _ _ _ _) (op_leqS rfl rfl) ?_)
    refine WP.ret ⟨.inr rfl, _, rfl, ?_, rfl⟩
    rw [pre, decide_eq_true h]; rfl
theorem prefix_c (hO : ∀ f vs H, f ≠ 8 → O f vs H = none) {s x : ByteArray} : Lc V O F_strings_HasPrefix [.string s, .string x] H (.bool (pre s x)) H := Lc.of_eq <| by
  refine Lc.strings_HasPrefix (hO _ _ _ (by decide)) (Nat.le_of_ble_eq_true rfl) (by kernel_rfl) ?_
  unfold P_strings_HasPrefix
  (repeat first | refine zSeq ?_ | refine zReg ?_ | refine zBlk ?_ | refine zSkp ?_ | refine zExt ?_ | refine zNil rfl ?_ | refine zGet rfl ?_ | refine zOn rfl rfl ?_ | refine zOff rfl rfl ?_ | refine zU rfl ?_ | refine zOn rfl (by assumption) ?_ | refine zOff rfl (by assumption) ?_ | refine zMov rfl ?_ | refine zAsg rfl ?_ | refine zXtr rfl ?_ | refine zPT rfl rfl rfl ?_ | refine zPF rfl rfl rfl ?_ | refine zPT rfl (by assumption) rfl ?_ | refine zPF rfl (by assumption) rfl ?_ | refine zLss rfl rfl ?_ | refine zLeq rfl rfl ?_ | refine zGtr rfl rfl ?_ | refine zGeq rfl rfl ?_ | refine zEql rfl rfl ?_ | refine zNeq rfl rfl ?_ | refine zAdd rfl rfl (by omega) ?_ | refine zSub rfl rfl (by omega) ?_ | refine zLenS rfl E_string ?_ | refine zNot rfl ?_ | refine zEqS rfl rfl ?_ | refine zNeS rfl rfl ?_ | refine zT rfl rfl ?_ | refine zF rfl rfl ?_ | refine zT rfl (by assumption) ?_ | refine zF rfl (by assumption) ?_ | refine zLen rfl (hv.len E_s_string) ?_ | refine WL.op (o := .index _ _ _) (op_indexS rfl rfl E_string (by decide) hidx) ?_ | refine WL.op (o := .binOp .leq _ _ _ _) (op_leqS rfl rfl) ?_)
  refine WL.call rfl rfl is_internal_stringslite_HasPrefix (prefix0_c hO) ?_
  (repeat first | refine zSeq ?_ | refine zReg ?_ | refine zBlk ?_ | refine zSkp ?_ | refine zExt ?_ | refine zNil rfl ?_ | refine zGet rfl ?_ | refine zOn rfl rfl ?_ | refine zOff rfl rfl ?_ | refine zU rfl ?_ | refine zOn rfl (by assumption) ?_ | refine zOff rfl (by assumption) ?_ | refine zMov rfl ?_ | refine zAsg rfl ?_ | refine zXtr rfl ?_ | refine zPT rfl rfl rfl ?_ | refine zPF rfl rfl rfl ?_ | refine zPT rfl (by assumption) rfl ?_ | refine zPF rfl (by assumption) rfl ?_ | refine zLss rfl rfl ?_ | refine zLeq rfl rfl ?_ | refine zGtr rfl rfl ?_ | refine zGeq rfl rfl ?_ | refine zEql rfl rfl ?_ | refine zNeq rfl rfl ?_ | refine zAdd rfl rfl (by omega) ?_ | refine zSub rfl rfl (by omega) ?_ | refine zLenS rfl E_string ?_ | refine zNot rfl ?_ | refine zEqS rfl rfl ?_ | refine zNeS rfl rfl ?_ | refine zT rfl rfl ?_ | refine zF rfl rfl ?_ | refine zT rfl (by assumption) ?_ | refine zF rfl (by assumption) ?_ | refine zLen rfl (hv.len E_s_string) ?_ | refine WL.op (o := .index _ _ _) (op_indexS rfl rfl E_string (by decide) hidx) ?_ | refine WL.op (o := .binOp .leq _ _ _ _) (op_leqS rfl rfl) ?_)
  exact WP.ret ⟨.inr rfl, _, rfl, rfl, rfl⟩
theorem token1_c (hO : ∀ f vs H, f ≠ 8 → O f vs H = none) {s x : ByteArray} {b off : Nat} (hb : Rd H b off 1 [.string s]) : Lc V O F_lex_token_q1 [.string x, .pointer (some ⟨b, off, none⟩)] H (.bool (pre s x)) H := Lc.of_eq <| by
  refine Lc.lex_token_q1 (hO _ _ _ (by decide)) (Nat.le_of_ble_eq_true rfl) (by kernel_rfl) ?_
  unfold P_lex_token_q1
  (repeat first | refine zSeq ?_ | refine zReg ?_ | refine zBlk ?_ | refine zSkp ?_ | refine zExt ?_ | refine zNil rfl ?_ | refine zGet rfl ?_ | refine zOn rfl rfl ?_ | refine zOff rfl rfl ?_ | refine zU rfl ?_ | refine zOn rfl (by assumption) ?_ | refine zOff rfl (by assumption) ?_ | refine zMov rfl ?_ | refine zAsg rfl ?_ | refine zXtr rfl ?_ | refine zPT rfl rfl rfl ?_ | refine zPF rfl rfl rfl ?_ | refine zPT rfl (by assumption) rfl ?_ | refine zPF rfl (by assumption) rfl ?_ | refine zLss rfl rfl ?_ | refine zLeq rfl rfl ?_ | refine zGtr rfl rfl ?_ | refine zGeq rfl rfl ?_ | refine zEql rfl rfl ?_ | refine zNeq rfl rfl ?_ | refine zAdd rfl rfl (by omega) ?_ | refine zSub rfl rfl (by omega) ?_ | refine zLenS rfl E_string ?_ | refine zNot rfl ?_ | refine zEqS rfl rfl ?_ | refine zNeS rfl rfl ?_ | refine zT rfl rfl ?_ | refine zF rfl rfl ?_ | refine zT rfl (by assumption) ?_ | refine zF rfl (by assumption) ?_ | refine zLen rfl (hv.len E_s_string) ?_ | refine WL.op (o := .index _ _ _) (op_indexS rfl rfl E_string (by decide) hidx) ?_ | refine WL.op (o := .binOp .leq _ _ _ _) (op_leqS rfl rfl) ?_)
  refine WL.op (op_load rfl (hb.load1 E_string rfl)) ?_
  (repeat first | refine zSeq ?_ | refine zReg ?_ | refine zBlk ?_ | refine zSkp ?_ | refine zExt ?_ | refine zNil rfl ?_ | refine zGet rfl ?_ | refine zOn rfl rfl ?_ | refine zOff rfl rfl ?_ | refine zU rfl ?_ | refine zOn rfl (by assumption) ?_ | refine zOff rfl (by assumption) ?_ | refine zMov rfl ?_ | refine zAsg rfl ?_ | refine zXtr rfl ?_ | refine zPT rfl rfl rfl ?_ | refine zPF rfl rfl rfl ?_ | refine zPT rfl (by assumption) rfl ?_ | refine zPF rfl (by assumption) rfl ?_ | refine zLss rfl rfl ?_ | refine zLeq rfl rfl ?_ | refine zGtr rfl rfl ?_ | refine zGeq rfl rfl ?_ | refine zEql rfl rfl ?_ | refine zNeq rfl rfl ?_ | refine zAdd rfl rfl (by omega) ?_ | refine zSub rfl rfl (by omega) ?_ | refine zLenS rfl E_string ?_ | refine zNot rfl ?_ | refine zEqS rfl rfl ?_ | refine zNeS rfl rfl ?_ | refine zT rfl rfl ?_ | refine zF rfl rfl ?_ | refine zT rfl (by assumption) ?_ | refine zF rfl (by assumption) ?_ | refine zLen rfl (hv.len E_s_string) ?_ | refine WL.op (o := .index _ _ _) (op_indexS rfl rfl E_string (by decide) hidx) ?_ | refine WL.op (o := .binOp .leq _ _ _ _) (op_leqS rfl rfl) ?_)
  refine WL.call rfl rfl is_strings_HasPrefix (prefix_c hO) ?_
  (repeat first | refine zSeq ?_ | refine zReg ?_ | refine zBlk ?_ | refine zSkp ?_ | refine zExt ?_ | refine zNil rfl ?_ | refine zGet rfl ?_ | refine zOn rfl rfl ?_ | refine zOff rfl rfl ?_ | refine zU rfl ?_ | refine zOn rfl (by assumption) ?_ | refine zOff rfl (by assumption) ?_ | refine zMov rfl ?_ | refine zAsg rfl ?_ | refine zXtr rfl ?_ | refine zPT rfl rfl rfl ?_ | refine zPF rfl rfl rfl ?_ | refine zPT rfl (by assumption) rfl ?_ | refine zPF rfl (by assumption) rfl ?_ | refine zLss rfl rfl ?_ | refine zLeq rfl rfl ?_ | refine zGtr rfl rfl ?_ | refine zGeq rfl rfl ?_ | refine zEql rfl rfl ?_ | refine zNeq rfl rfl ?_ | refine zAdd rfl rfl (by omega) ?_ | refine zSub rfl rfl (by omega) ?_ | refine zLenS rfl E_string ?_ | refine zNot rfl ?_ | refine zEqS rfl rfl ?_ | refine zNeS rfl rfl ?_ | refine zT rfl rfl ?_ | refine zF rfl rfl ?_ | refine zT rfl (by assumption) ?_ | refine zF rfl (by assumption) ?_ | refine zLen rfl (hv.len E_s_string) ?_ | refine WL.op (o := .index _ _ _) (op_indexS rfl rfl E_string (by decide) hidx) ?_ | refine WL.op (o := .binOp .leq _ _ _ _) (op_leqS rfl rfl) ?_)
  exact WP.ret ⟨.inr rfl, _, rfl, rfl, rfl⟩
def idxI (p : ByteArray → Bool) (strs : List ByteArray) : Int := match strs.findIdx? p with
  | some i => i
  | none => -1
theorem indexFunc_c (hO : ∀ f vs H, f ≠ 8 → O f vs H = none) {v : Value} {strs : List ByteArray} (hv : Sl H v 1 strs.length (strs.map .string)) {f : FuncId} {cap : Array Value} {p : ByteArray → Bool} (hf : (V.F f).isSome = true) (hp : ∀ x, Lc V O f ([.string x] ++ cap.toList) H (.bool (p x)) H) :
    Lc V O F_slices_IndexFunc_s_string_string [v, .func (.func f) #[] cap] H (.int .i64 (idxI p strs)) H := Lc.of_eq <| by
  have hlen := hv.2.1
  refine Lc.slices_IndexFunc_s_string_string (hO _ _ _ (by decide)) (Nat.le_of_ble_eq_true rfl) (by kernel_rfl) ?_
  unfold P_slices_IndexFunc_s_string_string
  (repeat first | refine zSeq ?_ | refine zReg ?_ | refine zBlk ?_ | refine zSkp ?_ | refine zExt ?_ | refine zNil rfl ?_ | refine zGet rfl ?_ | refine zOn rfl rfl ?_ | refine zOff rfl rfl ?_ | refine zU rfl ?_ | refine zOn rfl (by assumption) ?_ | refine zOff rfl (by assumption) ?_ | refine zMov rfl ?_ | refine zAsg rfl ?_ | refine zXtr rfl ?_ | refine zPT rfl rfl rfl ?_ | refine zPF rfl rfl rfl ?_ | refine zPT rfl (by assumption) rfl ?_ | refine zPF rfl (by assumption) rfl ?_ | refine zLss rfl rfl ?_ | refine zLeq rfl rfl ?_ | refine zGtr rfl rfl ?_ | refine zGeq rfl rfl ?_ | refine zEql rfl rfl ?_ | refine zNeq rfl rfl ?_ | refine zAdd rfl rfl (by omega) ?_ | refine zSub rfl rfl (by omega) ?_ | refine zLenS rfl E_string ?_ | refine zNot rfl ?_ | refine zEqS rfl rfl ?_ | refine zNeS rfl rfl ?_ | refine zT rfl rfl ?_ | refine zF rfl rfl ?_ | refine zT rfl (by assumption) ?_ | refine zF rfl (by assumption) ?_ | refine zLen rfl (hv.len E_s_string) ?_ | refine WL.op (o := .index _ _ _) (op_indexS rfl rfl E_string (by decide) hidx) ?_ | refine WL.op (o := .binOp .leq _ _ _ _) (op_leqS rfl rfl) ?_)
  refine WP.loopH (σ := Nat) (fun i => [(0, v), (1, .func (.func f) #[] cap), (7, .int .i64 strs.length), (8, .int .i64 i)]) (fun i H' => H = H' ∧ i ≤ strs.length ∧ ∀ j (h : j < strs.length), j < i → p strs[j] = false) (fun i => strs.length - i) 0 ⟨rfl, by simp, fun j _ h => absurd h (by omega)⟩ ⟨rfl, rfl, rfl, rfl, trivial⟩ ?_
  rintro i _ ⟨rfl, hi, hn⟩
  rcases Nat.lt_or_ge i strs.length with h | h
  · have hd : decide ((i : Int) < strs.length) = true := decide_eq_true (by omega)
    obtain ⟨b, off, ha, hr⟩ := hv.at1 E_s_string E_string rfl (kd := .i64) (i := i) (by omega) (c := .string strs[i]) (by simp [h])
    (repeat first | refine zSeq ?_ | refine zReg ?_ | refine zBlk ?_ | refine zSkp ?_ | refine zExt ?_ | refine zNil rfl ?_ | refine zGet rfl ?_ | refine zOn rfl rfl ?_ | refine zOff rfl rfl ?_ | refine zU rfl ?_ | refine zOn rfl (by assumption) ?_ | refine zOff rfl (by assumption) ?_ | refine zMov rfl ?_ | refine zAsg rfl ?_ | refine zXtr rfl ?_ | refine zPT rfl rfl rfl ?_ | refine zPF rfl rfl rfl ?_ | refine zPT rfl (by assumption) rfl ?_ | refine zPF rfl (by assumption) rfl ?_ | refine zLss rfl rfl ?_ | refine zLeq rfl rfl ?_ | refine zGtr rfl rfl ?_ | refine zGeq rfl rfl ?_ | refine zEql rfl rfl ?_ | refine zNeq rfl rfl ?_ | refine zAdd rfl rfl (by omega) ?_ | refine zSub rfl rfl (by omega) ?_ | refine zLenS rfl E_string ?_ | refine zNot rfl ?_ | refine zEqS rfl rfl ?_ | refine zNeS rfl rfl ?_ | refine zT rfl rfl ?_ | refine zF rfl rfl ?_ | refine zT rfl (by assumption) ?_ | refine zF rfl (by assumption) ?_ | refine zLen rfl (hv.len E_s_string) ?_ | refine WL.op (o := .index _ _ _) (op_indexS rfl rfl E_string (by decide) hidx) ?_ | refine WL.op (o := .binOp .leq _ _ _ _) (op_leqS rfl rfl) ?_)
    refine WL.op (op_indexAddr rfl rfl ha) ?_
    refine WL.op (op_load rfl (hr.load1 E_string rfl)) ?_
    refine WL.call rfl rfl hf (hp _) ?_
    cases he : p strs[i]
    · (repeat first | refine zSeq ?_ | refine zReg ?_ | refine zBlk ?_ | refine zSkp ?_ | refine zExt ?_ | refine zNil rfl ?_ | refine zGet rfl ?_ | refine zOn rfl rfl ?_ | refine zOff rfl rfl ?_ | refine zU rfl ?_ | refine zOn rfl (by assumption) ?_ | refine zOff rfl (by assumption) ?_ | refine zMov rfl ?_ | refine zAsg rfl ?_ | refine zXtr rfl ?_ | refine zPT rfl rfl rfl ?_ | refine zPF rfl rfl rfl ?_ | refine zPT rfl (by assumption) rfl ?_ | refine zPF rfl (by assumption) rfl ?_ | refine zLss rfl rfl ?_ | refine zLeq rfl rfl ?_ | refine zGtr rfl rfl ?_ | refine zGeq rfl rfl ?_ | refine zEql rfl rfl ?_ | refine zNeq rfl rfl ?_ | refine zAdd rfl rfl (by omega) ?_ | refine zSub rfl rfl (by omega) ?_ | refine zLenS rfl E_string ?_ | refine zNot rfl ?_ | refine zEqS rfl rfl ?_ | refine zNeS rfl rfl ?_ | refine zT rfl rfl ?_ | refine zF rfl rfl ?_ | refine zT rfl (by assumption) ?_ | refine zF rfl (by assumption) ?_ | refine zLen rfl (hv.len E_s_string) ?_ | refine WL.op (o := .index _ _ _) (op_indexS rfl rfl E_string (by decide) hidx) ?_ | refine WL.op (o := .binOp .leq _ _ _ _) (op_leqS rfl rfl) ?_)
      refine ⟨i + 1, ⟨rfl, by omega, fun j hj hji => ?_⟩, by omega, rfl, rfl, rfl, rfl, trivial⟩
      by_cases e : j = i
      · subst e; exact he
      · exact hn j hj (by omega)
    · (repeat first | refine zSeq ?_ | refine zReg ?_ | refine zBlk ?_ | refine zSkp ?_ | refine zExt ?_ | refine zNil rfl ?_ | refine zGet rfl ?_ | refine zOn rfl rfl ?_ | refine zOff rfl rfl ?_ | refine zU rfl ?_ | refine zOn rfl (by assumption) ?_ | refine zOff rfl (by assumption) ?_ | refine zMov rfl ?_ | refine zAsg rfl ?_ | refine zXtr rfl ?_ | refine zPT rfl rfl rfl ?_ | refine zPF rfl rfl rfl ?_ | refine zPT rfl (by assumption) rfl ?_ | refine zPF rfl (by assumption) rfl ?_ | refine zLss rfl rfl ?_ | refine zLeq rfl rfl ?_ | refine zGtr rfl rfl ?_ | refine zGeq rfl rfl ?_ | refine zEql rfl rfl ?_ | refine zNeq rfl rfl ?_ | refine zAdd rfl rfl (by omega) ?_ | refine zSub rfl rfl (by omega) ?_ | refine zLenS rfl E_string ?_ | refine zNot rfl ?_ | refine zEqS rfl rfl ?_ | refine zNeS rfl rfl ?_ | refine zT rfl rfl ?_ | refine zF rfl rfl ?_ | refine zT rfl (by assumption) ?_ | refine zF rfl (by assumption) ?_ | refine zLen rfl (hv.len E_s_string) ?_ | refine WL.op (o := .index _ _ _) (op_indexS rfl rfl E_string (by decide) hidx) ?_ | refine WL.op (o := .binOp .leq _ _ _ _) (op_leqS rfl rfl) ?_)
      refine WP.ret ⟨.inr rfl, _, rfl, ?_, rfl⟩
      have : strs.findIdx? p = some i := by
        rw [List.findIdx?_eq_some_iff_getElem]
        exact ⟨h, he, fun j hj => by simp [hn j (by omega) hj]⟩
      rw [idxI, this]; rfl
  · have hd : decide ((i : Int) < strs.length) = false := decide_eq_false (by omega)
    (repeat first | refine zSeq ?_ | refine zReg ?_ | refine zBlk ?_ | refine zSkp ?_ | refine zExt ?_ | refine zNil rfl ?_ | refine zGet rfl ?_ | refine zOn rfl rfl ?_ | refine zOff rfl rfl ?_ | refine zU rfl ?_ | refine zOn rfl (by assumption) ?_ | refine zOff rfl (by assumption) ?_ | refine zMov rfl ?_ | refine zAsg rfl ?_ | refine zXtr rfl ?_ | refine zPT rfl rfl rfl ?_ | refine zPF rfl rfl rfl ?_ | refine zPT rfl (by assumption) rfl ?_ | refine zPF rfl (by assumption) rfl ?_ | refine zLss rfl rfl ?_ | refine zLeq rfl rfl ?_ | refine zGtr rfl rfl ?_ | refine zGeq rfl rfl ?_ | refine zEql rfl rfl ?_ | refine zNeq rfl rfl ?_ | refine zAdd rfl rfl (by omega) ?_ | refine zSub rfl rfl (by omega) ?_ | refine zLenS rfl E_string ?_ | refine zNot rfl ?_ | refine zEqS rfl rfl ?_ | refine zNeS rfl rfl ?_ | refine zT rfl rfl ?_ | refine zF rfl rfl ?_ | refine zT rfl (by assumption) ?_ | refine zF rfl (by assumption) ?_ | refine zLen rfl (hv.len E_s_string) ?_ | refine WL.op (o := .index _ _ _) (op_indexS rfl rfl E_string (by decide) hidx) ?_ | refine WL.op (o := .binOp .leq _ _ _ _) (op_leqS rfl rfl) ?_)
    refine WP.ret ⟨.inr rfl, _, rfl, ?_, rfl⟩
    have : strs.findIdx? p = none := by
      rw [List.findIdx?_eq_none_iff_findIdx_eq, List.findIdx_eq_length]
      intro x hx
      obtain ⟨j, hj, rfl⟩ := List.mem_iff_getElem.1 hx
      simp [hn j hj (by omega)]
    rw [idxI, this]; rfl
def signs : List ByteArray := [⟨⟨[124, 124]⟩⟩, ⟨⟨[38, 38]⟩⟩, ⟨⟨[60, 61]⟩⟩, ⟨⟨[62, 61]⟩⟩, ⟨⟨[61, 61]⟩⟩, ⟨⟨[33, 61]⟩⟩, ⟨⟨[60]⟩⟩, ⟨⟨[62]⟩⟩, ⟨⟨[61]⟩⟩, ⟨⟨[43]⟩⟩, ⟨⟨[45]⟩⟩, ⟨⟨[42]⟩⟩, ⟨⟨[47]⟩⟩, ⟨⟨[37]⟩⟩, ⟨⟨[33]⟩⟩, ⟨⟨[40]⟩⟩, ⟨⟨[41]⟩⟩, ⟨⟨[123]⟩⟩, ⟨⟨[125]⟩⟩, ⟨⟨[91]⟩⟩, ⟨⟨[93]⟩⟩, ⟨⟨[59]⟩⟩, ⟨⟨[44]⟩⟩]
def HasSigns (H : AH) : Prop := 0 < H.next ∧ ∃ et g v, H.obj 0 = .row et (signs.map .string) .ro g v
theorem HasSigns.fr {H' : AH} (h : HasSigns H) (k : Fr H H') : HasSigns H' := by
  obtain ⟨h0, et, g, v, h1⟩ := h
  exact ⟨Nat.lt_of_lt_of_le h0 k.1, et, g, v, by rw [k.2.1 0 h0]; exact h1⟩
theorem HasSigns.sl (h : HasSigns H) : Sl H (.slice (some ⟨0, 0, none⟩) 23 23) 1 signs.length (signs.map .string) := by
  obtain ⟨h0, et, g, v, h1⟩ := h
  exact ⟨rfl, by decide, .inr ⟨0, 0, 23, rfl, fun _ => Rd.ro h0 h1⟩⟩
def digL (l : List UInt8) : Nat := (l.takeWhile fun b => dig b.toNat).length
def tokB (s : ByteArray) : Nat × Nat × Bool :=
  if 0 < wordL s.data.toList then (1, wordL s.data.toList, decide (wordL s.data.toList ≤ 32))
  else if 0 < digL s.data.toList then (2, digL s.data.toList, numB (s.extract 0 (digL s.data.toList)) && (decide (digL s.data.toList = s.size) || !let_ ((s.data.toList.getD (digL s.data.toList) 0).toNat)))
  else match signs.find? (pre s) with
    | some x => (3, x.size, true)
    | none => (0, 0, false)
theorem slice_signs {l : SL} {E : List Value} : aopG V (gS V.nG E l) H (.slice 51 (.global 0) none none none) = some (.slice (some ⟨0, 0, none⟩) 23 23, H) := by kernel_rfl
theorem at_signs {i : Nat} (h : i < 23) : aIndex V.E 51 (.pointer (some ⟨0, 0, none⟩)) (.int .i64 i) = some (.pointer (some ⟨0, i, none⟩)) := by
  simp only [aIndex, E_23_string, E_string]
  rw [if_pos ⟨by omega, by omega⟩]; simp
theorem token_c (hO : ∀ f vs H, f ≠ 8 → O f vs H = none) (hS : HasSigns H) {s : ByteArray} (hs : s.size ≤ maxLen) :
    ∃ H', Lc V O F_lex_token [.string s] H (.tuple #[.int .u8 (tokB s).1, .int .i64 (tokB s).2.1, .bool (tokB s).2.2]) H' ∧ Fr H H' := by
  have hsz : s.size = s.data.toList.length := rfl
  have hmx : maxLen = 9223372036854775807 := rfl
  have key : ∃ u H', Lc V O F_lex_token [.string s] H u H' ∧ (u = .tuple #[.int .u8 (tokB s).1, .int .i64 (tokB s).2.1, .bool (tokB s).2.2] ∧ Fr H H') := by
    have fin : ∀ (a b : Nat) (c : Bool), tokB s = (a, b, c) → (resOf [.int .u8 a, .int .i64 b, .bool c] = .tuple #[.int .u8 (tokB s).1, .int .i64 (tokB s).2.1, .bool (tokB s).2.2] ∧ Fr H (H.alloc (.row 9 [.string s] .exact 0 0))) := fun a b c h => by rw [h]; exact ⟨rfl, .alloc _ _⟩
    have hb : Rd (H.alloc (.row 9 [.string s] .exact 0 0)) H.next 0 1 [.string s] := Rd.new rfl
    have hS' : HasSigns (H.alloc (.row 9 [.string s] .exact 0 0)) := hS.fr (.alloc _ _)
    have hw := fun H => word_c (H := H) hO hs
    have hd := fun H => run_c (H := H) (fun vs H => hO 31 vs H (by decide)) (f := 33) (by kernel_rfl) (p := fun b => dig b.toNat) (fun c => digit_c (fun vs H => hO 33 vs H (by decide))) hs
    refine Lc.lex_token (hO _ _ _ (by decide)) (Nat.le_of_ble_eq_true rfl) (by kernel_rfl) ?_
    unfold P_lex_token
    refine WP.seq ?_
    refine WP.reg ?_
    refine WL.op (o := .box _ _) rfl ?_
    (repeat first | refine zSeq ?_ | refine zReg ?_ | refine zBlk ?_ | refine zSkp ?_ | refine zExt ?_ | refine zNil rfl ?_ | refine zGet rfl ?_ | refine zOn rfl rfl ?_ | refine zOff rfl rfl ?_ | refine zU rfl ?_ | refine zOn rfl (by assumption) ?_ | refine zOff rfl (by assumption) ?_ | refine zMov rfl ?_ | refine zAsg rfl ?_ | refine zXtr rfl ?_ | refine zPT rfl rfl rfl ?_ | refine zPF rfl rfl rfl ?_ | refine zPT rfl (by assumption) rfl ?_ | refine zPF rfl (by assumption) rfl ?_ | refine zLss rfl rfl ?_ | refine zLeq rfl rfl ?_ | refine zGtr rfl rfl ?_ | refine zGeq rfl rfl ?_ | refine zEql rfl rfl ?_ | refine zNeq rfl rfl ?_ | refine zAdd rfl rfl (by omega) ?_ | refine zSub rfl rfl (by omega) ?_ | refine zLenS rfl E_string ?_ | refine zNot rfl ?_ | refine zEqS rfl rfl ?_ | refine zNeS rfl rfl ?_ | refine zT rfl rfl ?_ | refine zF rfl rfl ?_ | refine zT rfl (by assumption) ?_ | refine zF rfl (by assumption) ?_ | refine zLen rfl (hv.len E_s_string) ?_ | refine WL.op (o := .index _ _ _) (op_indexS rfl rfl E_string (by decide) hidx) ?_ | refine WL.op (o := .binOp .leq _ _ _ _) (op_leqS rfl rfl) ?_)
    refine WL.op (op_load rfl (hb.load1 E_string rfl)) ?_
    refine WL.call rfl rfl is_lex_word (hw _) ?_
    rcases Nat.lt_or_ge 0 (wordL s.data.toList) with h1 | h1
    · have g1 : decide ((wordL s.data.toList : Int) > 0) = true := decide_eq_true (by omega)
      (repeat first | refine zSeq ?_ | refine zReg ?_ | refine zBlk ?_ | refine zSkp ?_ | refine zExt ?_ | refine zNil rfl ?_ | refine zGet rfl ?_ | refine zOn rfl rfl ?_ | refine zOff rfl rfl ?_ | refine zU rfl ?_ | refine zOn rfl (by assumption) ?_ | refine zOff rfl (by assumption) ?_ | refine zMov rfl ?_ | refine zAsg rfl ?_ | refine zXtr rfl ?_ | refine zPT rfl rfl rfl ?_ | refine zPF rfl rfl rfl ?_ | refine zPT rfl (by assumption) rfl ?_ | refine zPF rfl (by assumption) rfl ?_ | refine zLss rfl rfl ?_ | refine zLeq rfl rfl ?_ | refine zGtr rfl rfl ?_ | refine zGeq rfl rfl ?_ | refine zEql rfl rfl ?_ | refine zNeq rfl rfl ?_ | refine zAdd rfl rfl (by omega) ?_ | refine zSub rfl rfl (by omega) ?_ | refine zLenS rfl E_string ?_ | refine zNot rfl ?_ | refine zEqS rfl rfl ?_ | refine zNeS rfl rfl ?_ | refine zT rfl rfl ?_ | refine zF rfl rfl ?_ | refine zT rfl (by assumption) ?_ | refine zF rfl (by assumption) ?_ | refine zLen rfl (hv.len E_s_string) ?_ | refine WL.op (o := .index _ _ _) (op_indexS rfl rfl E_string (by decide) hidx) ?_ | refine WL.op (o := .binOp .leq _ _ _ _) (op_leqS rfl rfl) ?_)
      refine WP.ret ⟨.inr rfl, _, rfl, fin _ _ _ ?_⟩
      rw [tokB, if_pos h1]
      have e : decide ((wordL s.data.toList : Int) ≤ 32) = decide (wordL s.data.toList ≤ 32) := by rw [decide_eq_decide]; omega
      rw [e]
    have g1 : decide ((wordL s.data.toList : Int) > 0) = false := decide_eq_false (by omega)
    (repeat first | refine zSeq ?_ | refine zReg ?_ | refine zBlk ?_ | refine zSkp ?_ | refine zExt ?_ | refine zNil rfl ?_ | refine zGet rfl ?_ | refine zOn rfl rfl ?_ | refine zOff rfl rfl ?_ | refine zU rfl ?_ | refine zOn rfl (by assumption) ?_ | refine zOff rfl (by assumption) ?_ | refine zMov rfl ?_ | refine zAsg rfl ?_ | refine zXtr rfl ?_ | refine zPT rfl rfl rfl ?_ | refine zPF rfl rfl rfl ?_ | refine zPT rfl (by assumption) rfl ?_ | refine zPF rfl (by assumption) rfl ?_ | refine zLss rfl rfl ?_ | refine zLeq rfl rfl ?_ | refine zGtr rfl rfl ?_ | refine zGeq rfl rfl ?_ | refine zEql rfl rfl ?_ | refine zNeq rfl rfl ?_ | refine zAdd rfl rfl (by omega) ?_ | refine zSub rfl rfl (by omega) ?_ | refine zLenS rfl E_string ?_ | refine zNot rfl ?_ | refine zEqS rfl rfl ?_ | refine zNeS rfl rfl ?_ | refine zT rfl rfl ?_ | refine zF rfl rfl ?_ | refine zT rfl (by assumption) ?_ | refine zF rfl (by assumption) ?_ | refine zLen rfl (hv.len E_s_string) ?_ | refine WL.op (o := .index _ _ _) (op_indexS rfl rfl E_string (by decide) hidx) ?_ | refine WL.op (o := .binOp .leq _ _ _ _) (op_leqS rfl rfl) ?_)
    refine WL.op (op_load rfl (hb.load1 E_string rfl)) ?_
    refine WL.call rfl rfl is_lex_run (hd _) ?_
    rcases Nat.lt_or_ge 0 (digL s.data.toList) with h2 | h2
    · have g2 : decide (((s.data.toList.takeWhile fun b => dig b.toNat).length : Int) > 0) = true := decide_eq_true (by unfold digL at h2; omega)
      have hle : digL s.data.toList ≤ s.size := (List.takeWhile_sublist _).length_le
      (repeat first | refine zSeq ?_ | refine zReg ?_ | refine zBlk ?_ | refine zSkp ?_ | refine zExt ?_ | refine zNil rfl ?_ | refine zGet rfl ?_ | refine zOn rfl rfl ?_ | refine zOff rfl rfl ?_ | refine zU rfl ?_ | refine zOn rfl (by assumption) ?_ | refine zOff rfl (by assumption) ?_ | refine zMov rfl ?_ | refine zAsg rfl ?_ | refine zXtr rfl ?_ | refine zPT rfl rfl rfl ?_ | refine zPF rfl rfl rfl ?_ | refine zPT rfl (by assumption) rfl ?_ | refine zPF rfl (by assumption) rfl ?_ | refine zLss rfl rfl ?_ | refine zLeq rfl rfl ?_ | refine zGtr rfl rfl ?_ | refine zGeq rfl rfl ?_ | refine zEql rfl rfl ?_ | refine zNeq rfl rfl ?_ | refine zAdd rfl rfl (by omega) ?_ | refine zSub rfl rfl (by omega) ?_ | refine zLenS rfl E_string ?_ | refine zNot rfl ?_ | refine zEqS rfl rfl ?_ | refine zNeS rfl rfl ?_ | refine zT rfl rfl ?_ | refine zF rfl rfl ?_ | refine zT rfl (by assumption) ?_ | refine zF rfl (by assumption) ?_ | refine zLen rfl (hv.len E_s_string) ?_ | refine WL.op (o := .index _ _ _) (op_indexS rfl rfl E_string (by decide) hidx) ?_ | refine WL.op (o := .binOp .leq _ _ _ _) (op_leqS rfl rfl) ?_)
      refine WL.op (op_load rfl (hb.load1 E_string rfl)) ?_
      (repeat first | refine zSeq ?_ | refine zReg ?_ | refine zBlk ?_ | refine zSkp ?_ | refine zExt ?_ | refine zNil rfl ?_ | refine zGet rfl ?_ | refine zOn rfl rfl ?_ | refine zOff rfl rfl ?_ | refine zU rfl ?_ | refine zOn rfl (by assumption) ?_ | refine zOff rfl (by assumption) ?_ | refine zMov rfl ?_ | refine zAsg rfl ?_ | refine zXtr rfl ?_ | refine zPT rfl rfl rfl ?_ | refine zPF rfl rfl rfl ?_ | refine zPT rfl (by assumption) rfl ?_ | refine zPF rfl (by assumption) rfl ?_ | refine zLss rfl rfl ?_ | refine zLeq rfl rfl ?_ | refine zGtr rfl rfl ?_ | refine zGeq rfl rfl ?_ | refine zEql rfl rfl ?_ | refine zNeq rfl rfl ?_ | refine zAdd rfl rfl (by omega) ?_ | refine zSub rfl rfl (by omega) ?_ | refine zLenS rfl E_string ?_ | refine zNot rfl ?_ | refine zEqS rfl rfl ?_ | refine zNeS rfl rfl ?_ | refine zT rfl rfl ?_ | refine zF rfl rfl ?_ | refine zT rfl (by assumption) ?_ | refine zF rfl (by assumption) ?_ | refine zLen rfl (hv.len E_s_string) ?_ | refine WL.op (o := .index _ _ _) (op_indexS rfl rfl E_string (by decide) hidx) ?_ | refine WL.op (o := .binOp .leq _ _ _ _) (op_leqS rfl rfl) ?_)
      refine WL.op (op_sliceH rfl rfl E_string (by omega) (by unfold digL at hle; omega)) ?_
      refine WL.call rfl rfl is_lex_number (number_c hO (s := s.extract 0 (digL s.data.toList)) (by simp; omega)) ?_
      have tk : tokB s = (2, digL s.data.toList, numB (s.extract 0 (digL s.data.toList)) && (decide (digL s.data.toList = s.size) || !let_ ((s.data.toList.getD (digL s.data.toList) 0).toNat))) := by rw [tokB, if_neg (by omega), if_pos h2]
      cases hN : numB (s.extract 0 (digL s.data.toList))
      · (repeat first | refine zSeq ?_ | refine zReg ?_ | refine zBlk ?_ | refine zSkp ?_ | refine zExt ?_ | refine zNil rfl ?_ | refine zGet rfl ?_ | refine zOn rfl rfl ?_ | refine zOff rfl rfl ?_ | refine zU rfl ?_ | refine zOn rfl (by assumption) ?_ | refine zOff rfl (by assumption) ?_ | refine zMov rfl ?_ | refine zAsg rfl ?_ | refine zXtr rfl ?_ | refine zPT rfl rfl rfl ?_ | refine zPF rfl rfl rfl ?_ | refine zPT rfl (by assumption) rfl ?_ | refine zPF rfl (by assumption) rfl ?_ | refine zLss rfl rfl ?_ | refine zLeq rfl rfl ?_ | refine zGtr rfl rfl ?_ | refine zGeq rfl rfl ?_ | refine zEql rfl rfl ?_ | refine zNeq rfl rfl ?_ | refine zAdd rfl rfl (by omega) ?_ | refine zSub rfl rfl (by omega) ?_ | refine zLenS rfl E_string ?_ | refine zNot rfl ?_ | refine zEqS rfl rfl ?_ | refine zNeS rfl rfl ?_ | refine zT rfl rfl ?_ | refine zF rfl rfl ?_ | refine zT rfl (by assumption) ?_ | refine zF rfl (by assumption) ?_ | refine zLen rfl (hv.len E_s_string) ?_ | refine WL.op (o := .index _ _ _) (op_indexS rfl rfl E_string (by decide) hidx) ?_ | refine WL.op (o := .binOp .leq _ _ _ _) (op_leqS rfl rfl) ?_)
        exact WP.ret ⟨.inr rfl, _, rfl, fin 2 (digL s.data.toList) false (by rw [tk, hN]; rfl)⟩
      · (repeat first | refine zSeq ?_ | refine zReg ?_ | refine zBlk ?_ | refine zSkp ?_ | refine zExt ?_ | refine zNil rfl ?_ | refine zGet rfl ?_ | refine zOn rfl rfl ?_ | refine zOff rfl rfl ?_ | refine zU rfl ?_ | refine zOn rfl (by assumption) ?_ | refine zOff rfl (by assumption) ?_ | refine zMov rfl ?_ | refine zAsg rfl ?_ | refine zXtr rfl ?_ | refine zPT rfl rfl rfl ?_ | refine zPF rfl rfl rfl ?_ | refine zPT rfl (by assumption) rfl ?_ | refine zPF rfl (by assumption) rfl ?_ | refine zLss rfl rfl ?_ | refine zLeq rfl rfl ?_ | refine zGtr rfl rfl ?_ | refine zGeq rfl rfl ?_ | refine zEql rfl rfl ?_ | refine zNeq rfl rfl ?_ | refine zAdd rfl rfl (by omega) ?_ | refine zSub rfl rfl (by omega) ?_ | refine zLenS rfl E_string ?_ | refine zNot rfl ?_ | refine zEqS rfl rfl ?_ | refine zNeS rfl rfl ?_ | refine zT rfl rfl ?_ | refine zF rfl rfl ?_ | refine zT rfl (by assumption) ?_ | refine zF rfl (by assumption) ?_ | refine zLen rfl (hv.len E_s_string) ?_ | refine WL.op (o := .index _ _ _) (op_indexS rfl rfl E_string (by decide) hidx) ?_ | refine WL.op (o := .binOp .leq _ _ _ _) (op_leqS rfl rfl) ?_)
        refine WL.op (op_load rfl (hb.load1 E_string rfl)) ?_
        rcases Nat.lt_or_ge (digL s.data.toList) s.size with h3 | h3
        · have g4 : (((s.data.toList.takeWhile fun b => dig b.toNat).length : Int) == s.size) = false := by simp only [beq_eq_false_iff_ne]; unfold digL at h3; omega
          have hx : s.data.toList[((s.data.toList.takeWhile fun b => dig b.toNat).length : Int).toNat]? = some (s.data.toList.getD (digL s.data.toList) 0) := by
            have : ((s.data.toList.takeWhile fun b => dig b.toNat).length : Int).toNat = digL s.data.toList := rfl
            rw [this, List.getD_eq_getElem?_getD, List.getElem?_eq_getElem (by omega)]; rfl
          (repeat first | refine zSeq ?_ | refine zReg ?_ | refine zBlk ?_ | refine zSkp ?_ | refine zExt ?_ | refine zNil rfl ?_ | refine zGet rfl ?_ | refine zOn rfl rfl ?_ | refine zOff rfl rfl ?_ | refine zU rfl ?_ | refine zOn rfl (by assumption) ?_ | refine zOff rfl (by assumption) ?_ | refine zMov rfl ?_ | refine zAsg rfl ?_ | refine zXtr rfl ?_ | refine zPT rfl rfl rfl ?_ | refine zPF rfl rfl rfl ?_ | refine zPT rfl (by assumption) rfl ?_ | refine zPF rfl (by assumption) rfl ?_ | refine zLss rfl rfl ?_ | refine zLeq rfl rfl ?_ | refine zGtr rfl rfl ?_ | refine zGeq rfl rfl ?_ | refine zEql rfl rfl ?_ | refine zNeq rfl rfl ?_ | refine zAdd rfl rfl (by omega) ?_ | refine zSub rfl rfl (by omega) ?_ | refine zLenS rfl E_string ?_ | refine zNot rfl ?_ | refine zEqS rfl rfl ?_ | refine zNeS rfl rfl ?_ | refine zT rfl rfl ?_ | refine zF rfl rfl ?_ | refine zT rfl (by assumption) ?_ | refine zF rfl (by assumption) ?_ | refine zLen rfl (hv.len E_s_string) ?_ | refine WL.op (o := .index _ _ _) (op_indexS rfl rfl E_string (by decide) hidx) ?_ | refine WL.op (o := .binOp .leq _ _ _ _) (op_leqS rfl rfl) ?_)
          refine WL.op (op_load rfl (hb.load1 E_string rfl)) ?_
          (repeat first | refine zSeq ?_ | refine zReg ?_ | refine zBlk ?_ | refine zSkp ?_ | refine zExt ?_ | refine zNil rfl ?_ | refine zGet rfl ?_ | refine zOn rfl rfl ?_ | refine zOff rfl rfl ?_ | refine zU rfl ?_ | refine zOn rfl (by assumption) ?_ | refine zOff rfl (by assumption) ?_ | refine zMov rfl ?_ | refine zAsg rfl ?_ | refine zXtr rfl ?_ | refine zPT rfl rfl rfl ?_ | refine zPF rfl rfl rfl ?_ | refine zPT rfl (by assumption) rfl ?_ | refine zPF rfl (by assumption) rfl ?_ | refine zLss rfl rfl ?_ | refine zLeq rfl rfl ?_ | refine zGtr rfl rfl ?_ | refine zGeq rfl rfl ?_ | refine zEql rfl rfl ?_ | refine zNeq rfl rfl ?_ | refine zAdd rfl rfl (by omega) ?_ | refine zSub rfl rfl (by omega) ?_ | refine zLenS rfl E_string ?_ | refine zNot rfl ?_ | refine zEqS rfl rfl ?_ | refine zNeS rfl rfl ?_ | refine zT rfl rfl ?_ | refine zF rfl rfl ?_ | refine zT rfl (by assumption) ?_ | refine zF rfl (by assumption) ?_ | refine zLen rfl (hv.len E_s_string) ?_ | refine WL.op (o := .index _ _ _) (op_indexS rfl rfl E_string (by decide) hidx) ?_ | refine WL.op (o := .binOp .leq _ _ _ _) (op_leqS rfl rfl) ?_)
          refine WL.op (op_indexS rfl rfl E_string (by omega) hx) ?_
          (repeat first | refine zSeq ?_ | refine zReg ?_ | refine zBlk ?_ | refine zSkp ?_ | refine zExt ?_ | refine zNil rfl ?_ | refine zGet rfl ?_ | refine zOn rfl rfl ?_ | refine zOff rfl rfl ?_ | refine zU rfl ?_ | refine zOn rfl (by assumption) ?_ | refine zOff rfl (by assumption) ?_ | refine zMov rfl ?_ | refine zAsg rfl ?_ | refine zXtr rfl ?_ | refine zPT rfl rfl rfl ?_ | refine zPF rfl rfl rfl ?_ | refine zPT rfl (by assumption) rfl ?_ | refine zPF rfl (by assumption) rfl ?_ | refine zLss rfl rfl ?_ | refine zLeq rfl rfl ?_ | refine zGtr rfl rfl ?_ | refine zGeq rfl rfl ?_ | refine zEql rfl rfl ?_ | refine zNeq rfl rfl ?_ | refine zAdd rfl rfl (by omega) ?_ | refine zSub rfl rfl (by omega) ?_ | refine zLenS rfl E_string ?_ | refine zNot rfl ?_ | refine zEqS rfl rfl ?_ | refine zNeS rfl rfl ?_ | refine zT rfl rfl ?_ | refine zF rfl rfl ?_ | refine zT rfl (by assumption) ?_ | refine zF rfl (by assumption) ?_ | refine zLen rfl (hv.len E_s_string) ?_ | refine WL.op (o := .index _ _ _) (op_indexS rfl rfl E_string (by decide) hidx) ?_ | refine WL.op (o := .binOp .leq _ _ _ _) (op_leqS rfl rfl) ?_)
          refine WL.call rfl rfl is_lex_letter (letter_c (fun vs H => hO 30 vs H (by decide))) ?_
          (repeat first | refine zSeq ?_ | refine zReg ?_ | refine zBlk ?_ | refine zSkp ?_ | refine zExt ?_ | refine zNil rfl ?_ | refine zGet rfl ?_ | refine zOn rfl rfl ?_ | refine zOff rfl rfl ?_ | refine zU rfl ?_ | refine zOn rfl (by assumption) ?_ | refine zOff rfl (by assumption) ?_ | refine zMov rfl ?_ | refine zAsg rfl ?_ | refine zXtr rfl ?_ | refine zPT rfl rfl rfl ?_ | refine zPF rfl rfl rfl ?_ | refine zPT rfl (by assumption) rfl ?_ | refine zPF rfl (by assumption) rfl ?_ | refine zLss rfl rfl ?_ | refine zLeq rfl rfl ?_ | refine zGtr rfl rfl ?_ | refine zGeq rfl rfl ?_ | refine zEql rfl rfl ?_ | refine zNeq rfl rfl ?_ | refine zAdd rfl rfl (by omega) ?_ | refine zSub rfl rfl (by omega) ?_ | refine zLenS rfl E_string ?_ | refine zNot rfl ?_ | refine zEqS rfl rfl ?_ | refine zNeS rfl rfl ?_ | refine zT rfl rfl ?_ | refine zF rfl rfl ?_ | refine zT rfl (by assumption) ?_ | refine zF rfl (by assumption) ?_ | refine zLen rfl (hv.len E_s_string) ?_ | refine WL.op (o := .index _ _ _) (op_indexS rfl rfl E_string (by decide) hidx) ?_ | refine WL.op (o := .binOp .leq _ _ _ _) (op_leqS rfl rfl) ?_)
          refine WP.ret ⟨.inr rfl, _, rfl, fin 2 (digL s.data.toList) _ ?_⟩
          rw [tk, hN, decide_eq_false (by omega), Bool.true_and, Bool.false_or]
        · have g4 : (((s.data.toList.takeWhile fun b => dig b.toNat).length : Int) == s.size) = true := by simp only [beq_iff_eq]; unfold digL at h3 hle; omega
          (repeat first | refine zSeq ?_ | refine zReg ?_ | refine zBlk ?_ | refine zSkp ?_ | refine zExt ?_ | refine zNil rfl ?_ | refine zGet rfl ?_ | refine zOn rfl rfl ?_ | refine zOff rfl rfl ?_ | refine zU rfl ?_ | refine zOn rfl (by assumption) ?_ | refine zOff rfl (by assumption) ?_ | refine zMov rfl ?_ | refine zAsg rfl ?_ | refine zXtr rfl ?_ | refine zPT rfl rfl rfl ?_ | refine zPF rfl rfl rfl ?_ | refine zPT rfl (by assumption) rfl ?_ | refine zPF rfl (by assumption) rfl ?_ | refine zLss rfl rfl ?_ | refine zLeq rfl rfl ?_ | refine zGtr rfl rfl ?_ | refine zGeq rfl rfl ?_ | refine zEql rfl rfl ?_ | refine zNeq rfl rfl ?_ | refine zAdd rfl rfl (by omega) ?_ | refine zSub rfl rfl (by omega) ?_ | refine zLenS rfl E_string ?_ | refine zNot rfl ?_ | refine zEqS rfl rfl ?_ | refine zNeS rfl rfl ?_ | refine zT rfl rfl ?_ | refine zF rfl rfl ?_ | refine zT rfl (by assumption) ?_ | refine zF rfl (by assumption) ?_ | refine zLen rfl (hv.len E_s_string) ?_ | refine WL.op (o := .index _ _ _) (op_indexS rfl rfl E_string (by decide) hidx) ?_ | refine WL.op (o := .binOp .leq _ _ _ _) (op_leqS rfl rfl) ?_)
          refine WP.ret ⟨.inr rfl, _, rfl, fin 2 (digL s.data.toList) true ?_⟩
          rw [tk, hN, decide_eq_true (by omega)]; rfl
    have g2 : decide (((s.data.toList.takeWhile fun b => dig b.toNat).length : Int) > 0) = false := decide_eq_false (by unfold digL at h2; omega)
    (repeat first | refine zSeq ?_ | refine zReg ?_ | refine zBlk ?_ | refine zSkp ?_ | refine zExt ?_ | refine zNil rfl ?_ | refine zGet rfl ?_ | refine zOn rfl rfl ?_ | refine zOff rfl rfl ?_ | refine zU rfl ?_ | refine zOn rfl (by assumption) ?_ | refine zOff rfl (by assumption) ?_ | refine zMov rfl ?_ | refine zAsg rfl ?_ | refine zXtr rfl ?_ | refine zPT rfl rfl rfl ?_ | refine zPF rfl rfl rfl ?_ | refine zPT rfl (by assumption) rfl ?_ | refine zPF rfl (by assumption) rfl ?_ | refine zLss rfl rfl ?_ | refine zLeq rfl rfl ?_ | refine zGtr rfl rfl ?_ | refine zGeq rfl rfl ?_ | refine zEql rfl rfl ?_ | refine zNeq rfl rfl ?_ | refine zAdd rfl rfl (by omega) ?_ | refine zSub rfl rfl (by omega) ?_ | refine zLenS rfl E_string ?_ | refine zNot rfl ?_ | refine zEqS rfl rfl ?_ | refine zNeS rfl rfl ?_ | refine zT rfl rfl ?_ | refine zF rfl rfl ?_ | refine zT rfl (by assumption) ?_ | refine zF rfl (by assumption) ?_ | refine zLen rfl (hv.len E_s_string) ?_ | refine WL.op (o := .index _ _ _) (op_indexS rfl rfl E_string (by decide) hidx) ?_ | refine WL.op (o := .binOp .leq _ _ _ _) (op_leqS rfl rfl) ?_)
    refine WL.op slice_signs ?_
    refine WL.op (o := .makeFunc _ _ _) rfl ?_
    refine WL.call rfl rfl is_slices_IndexFunc_s_string_string (indexFunc_c hO hS'.sl is_lex_token_q1 (fun x => token1_c hO hb)) ?_
    cases hi : signs.findIdx? (pre s) with
    | none =>
      have g3 : decide (idxI (fun x => pre s x) signs < 0) = true := by rw [idxI, hi]; rfl
      (repeat first | refine zSeq ?_ | refine zReg ?_ | refine zBlk ?_ | refine zSkp ?_ | refine zExt ?_ | refine zNil rfl ?_ | refine zGet rfl ?_ | refine zOn rfl rfl ?_ | refine zOff rfl rfl ?_ | refine zU rfl ?_ | refine zOn rfl (by assumption) ?_ | refine zOff rfl (by assumption) ?_ | refine zMov rfl ?_ | refine zAsg rfl ?_ | refine zXtr rfl ?_ | refine zPT rfl rfl rfl ?_ | refine zPF rfl rfl rfl ?_ | refine zPT rfl (by assumption) rfl ?_ | refine zPF rfl (by assumption) rfl ?_ | refine zLss rfl rfl ?_ | refine zLeq rfl rfl ?_ | refine zGtr rfl rfl ?_ | refine zGeq rfl rfl ?_ | refine zEql rfl rfl ?_ | refine zNeq rfl rfl ?_ | refine zAdd rfl rfl (by omega) ?_ | refine zSub rfl rfl (by omega) ?_ | refine zLenS rfl E_string ?_ | refine zNot rfl ?_ | refine zEqS rfl rfl ?_ | refine zNeS rfl rfl ?_ | refine zT rfl rfl ?_ | refine zF rfl rfl ?_ | refine zT rfl (by assumption) ?_ | refine zF rfl (by assumption) ?_ | refine zLen rfl (hv.len E_s_string) ?_ | refine WL.op (o := .index _ _ _) (op_indexS rfl rfl E_string (by decide) hidx) ?_ | refine WL.op (o := .binOp .leq _ _ _ _) (op_leqS rfl rfl) ?_)
      refine WP.ret ⟨.inr rfl, _, rfl, fin 0 0 false ?_⟩
      have : signs.find? (pre s) = none := by
        rw [List.findIdx?_eq_none_iff] at hi
        exact List.find?_eq_none.2 fun x hx => by simp [hi x hx]
      rw [tokB, if_neg (by omega), if_neg (by omega), this]
    | some i =>
      have g3 : decide (idxI (fun x => pre s x) signs < 0) = false := by rw [idxI, hi]; exact decide_eq_false (by simp)
      (repeat first | refine zSeq ?_ | refine zReg ?_ | refine zBlk ?_ | refine zSkp ?_ | refine zExt ?_ | refine zNil rfl ?_ | refine zGet rfl ?_ | refine zOn rfl rfl ?_ | refine zOff rfl rfl ?_ | refine zU rfl ?_ | refine zOn rfl (by assumption) ?_ | refine zOff rfl (by assumption) ?_ | refine zMov rfl ?_ | refine zAsg rfl ?_ | refine zXtr rfl ?_ | refine zPT rfl rfl rfl ?_ | refine zPF rfl rfl rfl ?_ | refine zPT rfl (by assumption) rfl ?_ | refine zPF rfl (by assumption) rfl ?_ | refine zLss rfl rfl ?_ | refine zLeq rfl rfl ?_ | refine zGtr rfl rfl ?_ | refine zGeq rfl rfl ?_ | refine zEql rfl rfl ?_ | refine zNeq rfl rfl ?_ | refine zAdd rfl rfl (by omega) ?_ | refine zSub rfl rfl (by omega) ?_ | refine zLenS rfl E_string ?_ | refine zNot rfl ?_ | refine zEqS rfl rfl ?_ | refine zNeS rfl rfl ?_ | refine zT rfl rfl ?_ | refine zF rfl rfl ?_ | refine zT rfl (by assumption) ?_ | refine zF rfl (by assumption) ?_ | refine zLen rfl (hv.len E_s_string) ?_ | refine WL.op (o := .index _ _ _) (op_indexS rfl rfl E_string (by decide) hidx) ?_ | refine WL.op (o := .binOp .leq _ _ _ _) (op_leqS rfl rfl) ?_)
      rw [List.findIdx?_eq_some_iff_getElem] at hi
      obtain ⟨hlt, hpi, hpj⟩ := hi
      have hlt' : i < 23 := hlt
      have hf : signs.find? (pre s) = some signs[i] := List.find?_eq_some_iff_getElem.2 ⟨hpi, i, hlt, rfl, fun j hj => by simpa using hpj j hj⟩
      have e1 : idxI (fun x => pre s x) signs = i := by
        have : signs.findIdx? (pre s) = some i := by rw [List.findIdx?_eq_some_iff_getElem]; exact ⟨hlt, hpi, hpj⟩
        rw [idxI, this]
      have hr : Rd (H.alloc (.row 9 [.string s] .exact 0 0)) 0 i 1 [.string signs[i]] := by
        obtain ⟨h0, et, g, v, h1⟩ := hS'
        have := (Rd.ro h0 h1).at1 (i := i) (c := .string signs[i]) (by rw [List.getElem?_map, List.getElem?_eq_getElem hlt]; rfl)
        simpa using this
      rw [e1]
      refine WL.op (op_indexAddr rfl rfl (at_signs hlt')) ?_
      refine WL.op (op_load rfl (hr.load1 E_string rfl)) ?_
      (repeat first | refine zSeq ?_ | refine zReg ?_ | refine zBlk ?_ | refine zSkp ?_ | refine zExt ?_ | refine zNil rfl ?_ | refine zGet rfl ?_ | refine zOn rfl rfl ?_ | refine zOff rfl rfl ?_ | refine zU rfl ?_ | refine zOn rfl (by assumption) ?_ | refine zOff rfl (by assumption) ?_ | refine zMov rfl ?_ | refine zAsg rfl ?_ | refine zXtr rfl ?_ | refine zPT rfl rfl rfl ?_ | refine zPF rfl rfl rfl ?_ | refine zPT rfl (by assumption) rfl ?_ | refine zPF rfl (by assumption) rfl ?_ | refine zLss rfl rfl ?_ | refine zLeq rfl rfl ?_ | refine zGtr rfl rfl ?_ | refine zGeq rfl rfl ?_ | refine zEql rfl rfl ?_ | refine zNeq rfl rfl ?_ | refine zAdd rfl rfl (by omega) ?_ | refine zSub rfl rfl (by omega) ?_ | refine zLenS rfl E_string ?_ | refine zNot rfl ?_ | refine zEqS rfl rfl ?_ | refine zNeS rfl rfl ?_ | refine zT rfl rfl ?_ | refine zF rfl rfl ?_ | refine zT rfl (by assumption) ?_ | refine zF rfl (by assumption) ?_ | refine zLen rfl (hv.len E_s_string) ?_ | refine WL.op (o := .index _ _ _) (op_indexS rfl rfl E_string (by decide) hidx) ?_ | refine WL.op (o := .binOp .leq _ _ _ _) (op_leqS rfl rfl) ?_)
      refine WP.ret ⟨.inr rfl, _, rfl, fin 3 signs[i].size true ?_⟩
      rw [tokB, if_neg (by omega), if_neg (by omega), hf]
  obtain ⟨u, H', h, rfl, hk⟩ := key
  exact ⟨H', h, hk⟩
end Go.Proofs.YtdkfcpadbahohaaDoor.U

/-
  The tokens of a text, in plain words.
-/
namespace Go.Proofs.YtdkfcpadbahohaaDoor.U
open Go Go.Ev
attribute [local irreducible] WL WP WH W
variable {O : Orc} {H : AH}
structure Tok where
  kind : Nat
  text : List UInt8
  at_ : Nat
def str (l : List UInt8) : ByteArray := ⟨⟨l⟩⟩
def Tok.cells (t : Tok) : List Value := [.int .u8 t.kind, .string (str t.text), .int .i64 t.at_]
def tokCells (l : List Tok) : List Value := l.flatMap Tok.cells
theorem tokCells_len (l : List Tok) : (tokCells l).length = l.length * 3 := by
  induction l with
  | nil => rfl
  | cons a l ih => rw [tokCells, List.flatMap_cons, List.length_append, ← tokCells, ih]; simp [Tok.cells]; omega
def tokL (l : List UInt8) : Nat × Nat × Bool := tokB (str l)
def idleB (rem : Bool) (c : UInt8) : Bool := rem || (c.toNat : Int) == 35 || sp_ c.toNat
def scan : Nat → Bool → Nat → List UInt8 → Except Nat (List Tok)
  | 0, _, _, _ => .ok []
  | _ + 1, _, _, [] => .ok []
  | f + 1, rem, p, c :: r =>
    if idleB rem c then scan f ((rem || (c.toNat : Int) == 35) && (c.toNat : Int) != 10) (p + 1) r
    else if (tokL (c :: r)).2.2 then (scan f false (p + (tokL (c :: r)).2.1) ((c :: r).drop (tokL (c :: r)).2.1)).map (⟨(tokL (c :: r)).1, (c :: r).take (tokL (c :: r)).2.1, p⟩ :: ·)
    else .error p
theorem signs_pos : ∀ x ∈ signs, 0 < x.size := by decide
theorem tok_pos {l : List UInt8} (h : (tokL l).2.2 = true) : 0 < (tokL l).2.1 ∧ (tokL l).2.1 ≤ l.length := by
  have hl : (str l).data.toList = l := rfl
  unfold tokL tokB at h ⊢
  rw [hl] at h ⊢
  split at h
  · rename_i h1
    rw [if_pos h1]
    refine ⟨h1, ?_⟩
    show wordL l ≤ l.length
    unfold wordL
    split
    · exact Nat.zero_le _
    · split
      · exact (List.takeWhile_sublist _).length_le
      · exact Nat.zero_le _
  · rename_i h1
    rw [if_neg h1]
    split at h
    · rename_i h2
      rw [if_pos h2]
      exact ⟨h2, (List.takeWhile_sublist _).length_le⟩
    · rename_i h2
      rw [if_neg h2]
      split at h
      · rename_i x hx
        refine ⟨signs_pos x (List.mem_of_find?_eq_some hx), ?_⟩
        have := List.find?_some hx
        rw [pre, Bool.and_eq_true, decide_eq_true_eq] at this
        exact this.1
      · cases h
theorem scan_fuel : ∀ (f g : Nat) (rem : Bool) (p : Nat) (l : List UInt8), l.length ≤ f → l.length ≤ g → scan f rem p l = scan g rem p l
  | 0, 0, _, _, _, _, _ => rfl
  | 0, g + 1, _, _, l, h, _ => by
    obtain rfl := List.length_eq_zero_iff.1 (Nat.le_zero.1 h)
    rfl
  | f + 1, 0, _, _, l, _, h => by
    obtain rfl := List.length_eq_zero_iff.1 (Nat.le_zero.1 h)
    rfl
  | f + 1, g + 1, _, _, [], _, _ => rfl
  | f + 1, g + 1, rem, p, c :: r, h1, h2 => by
    simp only [List.length_cons] at h1 h2
    unfold scan
    split
    · exact scan_fuel f g _ _ r (by omega) (by omega)
    · split
      · rename_i h
        have := tok_pos h
        rw [scan_fuel f g _ _ _ (by simp; omega) (by simp; omega)]
      · rfl
theorem scan_cons {f : Nat} {rem : Bool} {p : Nat} {c : UInt8} {r : List UInt8} : scan (f + 1) rem p (c :: r) =
    if idleB rem c then scan f ((rem || (c.toNat : Int) == 35) && (c.toNat : Int) != 10) (p + 1) r
    else if (tokL (c :: r)).2.2 then (scan f false (p + (tokL (c :: r)).2.1) ((c :: r).drop (tokL (c :: r)).2.1)).map (⟨(tokL (c :: r)).1, (c :: r).take (tokL (c :: r)).2.1, p⟩ :: ·)
    else .error p := rfl
def toks (rem : Bool) (p : Nat) (l : List UInt8) : Except Nat (List Tok) := scan l.length rem p l
theorem toks_nil (rem : Bool) (p : Nat) : toks rem p [] = .ok [] := rfl
theorem toks_idle {rem : Bool} {p : Nat} {c : UInt8} {r : List UInt8} (h : idleB rem c = true) : toks rem p (c :: r) = toks ((rem || (c.toNat : Int) == 35) && (c.toNat : Int) != 10) (p + 1) r := by
  unfold toks; rw [List.length_cons, scan_cons]; rw [if_pos h]
theorem toks_bad {rem : Bool} {p : Nat} {c : UInt8} {r : List UInt8} (h : idleB rem c = false) (ht : (tokL (c :: r)).2.2 = false) : toks rem p (c :: r) = .error p := by
  unfold toks; rw [List.length_cons, scan_cons]; rw [if_neg (by simp [h]), if_neg (by simp [ht])]
theorem toks_tok {rem : Bool} {p : Nat} {c : UInt8} {r : List UInt8} (h : idleB rem c = false) (ht : (tokL (c :: r)).2.2 = true) :
    toks rem p (c :: r) = (toks false (p + (tokL (c :: r)).2.1) ((c :: r).drop (tokL (c :: r)).2.1)).map (⟨(tokL (c :: r)).1, (c :: r).take (tokL (c :: r)).2.1, p⟩ :: ·) := by
  unfold toks; rw [List.length_cons, scan_cons]; rw [if_neg (by simp [h]), if_pos ht]
  rw [scan_fuel r.length ((c :: r).drop (tokL (c :: r)).2.1).length _ _ _ (by have := tok_pos ht; simp; omega) (Nat.le_refl _)]
theorem toks_rem : ∀ (p : Nat) (l : List UInt8), toks true p l = toks false (p + (l.takeWhile fun b => (b.toNat : Int) != 10).length) (l.drop (l.takeWhile fun b => (b.toNat : Int) != 10).length)
  | p, [] => rfl
  | p, c :: r => by
    rw [toks_idle (by rfl)]
    cases h : (c.toNat : Int) != 10
    · rw [List.takeWhile_cons, h]
      have : idleB false c = true := by
        have : (c.toNat : Int) = 10 := by simpa using h
        simp [idleB, sp_, this]
      show _ = toks false (p + 0) (c :: r)
      rw [Nat.add_zero, toks_idle this, h]; simp
    · rw [List.takeWhile_cons, h]
      show toks true (p + 1) r = _
      rw [toks_rem (p + 1) r]
      simp only [if_true, List.length_cons, List.drop_succ_cons]
      rw [Nat.add_assoc, Nat.add_comm 1]
theorem toks_sp : ∀ (p : Nat) (l : List UInt8), toks false p l = toks false (p + (l.takeWhile fun b => sp_ b.toNat).length) (l.drop (l.takeWhile fun b => sp_ b.toNat).length)
  | p, [] => rfl
  | p, c :: r => by
    cases h : sp_ c.toNat
    · rw [List.takeWhile_cons, h]; rfl
    · rw [List.takeWhile_cons, h, toks_idle (by simp [idleB, h])]
      have : ((c.toNat : Int) == 35) = false := by
        cases e : (c.toNat : Int) == 35
        · rfl
        · have e' : (c.toNat : Int) = 35 := by simpa using e
          rw [e'] at h; exact absurd h (by decide)
      rw [this]
      show toks false (p + 1) r = _
      rw [toks_sp (p + 1) r]
      simp only [if_true, List.length_cons, List.drop_succ_cons]
      rw [Nat.add_assoc, Nat.add_comm 1]
theorem toks_blank (p : Nat) (l : List UInt8) : toks false p l = toks false (p + blankL l) (l.drop (blankL l)) := by
  cases l with
  | nil => rfl
  | cons c r =>
    unfold blankL
    simp only
    split
    · rename_i h
      have hc : (c.toNat : Int) = 35 := by simpa using h
      rw [toks_idle (by simp [idleB, hc]), hc]
      show toks true (p + 1) r = _
      have : ((c :: r).takeWhile fun b => (b.toNat : Int) != 10) = c :: r.takeWhile fun b => (b.toNat : Int) != 10 := by
        rw [List.takeWhile_cons, hc]; rfl
      rw [toks_rem, this, List.length_cons, List.drop_succ_cons, Nat.add_assoc, Nat.add_comm 1]
    · exact toks_sp p _
theorem blank_zero {c : UInt8} {r : List UInt8} (h : blankL (c :: r) = 0) : idleB false c = false := by
  unfold blankL at h
  simp only at h
  split at h
  · rename_i h1
    have hc : (c.toNat : Int) = 35 := by simpa using h1
    rw [List.takeWhile_cons, hc] at h
    cases h
  · rename_i h1
    rw [List.takeWhile_cons] at h
    cases h2 : sp_ c.toNat
    · simp only [idleB, h2, Bool.false_or, Bool.or_false]; simpa using h1
    · rw [h2] at h; cases h
end Go.Proofs.YtdkfcpadbahohaaDoor.U

/-
  Contract of lex.Tokens.
-/
namespace Go.Proofs.YtdkfcpadbahohaaDoor.U
open Go Go.Ev
attribute [local irreducible] WL WP WH W
variable {O : Orc} {H : AH}
theorem ext_list (s : ByteArray) (a b : Nat) : (s.extract a b).data.toList = (s.data.toList.drop a).take (b - a) := by
  rw [ByteArray.data_extract, Array.toList_extract]
theorem ext_str (s : ByteArray) (a n : Nat) : s.extract a (a + n) = str ((s.data.toList.drop a).take n) := by
  apply ByteArray.ext; apply Array.ext'
  have := ext_list s a (a + n)
  rwa [Nat.add_sub_cancel_left] at this
theorem ext_end (s : ByteArray) (a : Nat) : s.extract a s.size = str (s.data.toList.drop a) := by
  apply ByteArray.ext; apply Array.ext'
  have := ext_list s a s.size
  rw [this]
  have h : s.size = s.data.toList.length := rfl
  rw [List.take_of_length_le (by rw [List.length_drop, h]; omega)]; rfl
def lexR (l : List UInt8) : List Tok × Nat × Nat := if 65536 < l.length then ([], 0, 40) else match toks false 0 l with
  | .ok ts => (ts, 0, 0)
  | .error p => ([], p, 63)
theorem lexR_ok {l : List UInt8} {ts : List Tok} (h : l.length ≤ 65536) (k : toks false 0 l = .ok ts) : lexR l = (ts, 0, 0) := by rw [lexR, if_neg (by omega), k]
theorem lexR_bad {l : List UInt8} {p : Nat} (h : l.length ≤ 65536) (k : toks false 0 l = .error p) : lexR l = ([], p, 63) := by rw [lexR, if_neg (by omega), k]
theorem tokCells_app (a b : List Tok) : tokCells (a ++ b) = tokCells a ++ tokCells b := List.flatMap_append
def LexC (f : FuncId) (O : Orc) (H : AH) (s : ByteArray) : Prop := ∃ v H' o, Lc V O f [.string s] H (.tuple #[v, .int .i64 (lexR s.data.toList).2.1, .int .i64 (lexR s.data.toList).2.2]) H' ∧ Fr H H' ∧ Ow H' H.next 36 3 v (lexR s.data.toList).1.length (tokCells (lexR s.data.toList).1) o
set_option maxHeartbeats 2000000 in
theorem tokens_c (hO : ∀ f vs H, f ≠ 8 → O f vs H = none) (hS : HasSigns H) {s : ByteArray} (hs : s.size ≤ maxLen) : LexC F_lex_Tokens O H s := by
  have hsz : s.size = s.data.toList.length := rfl
  have hmx : maxLen = 9223372036854775807 := rfl
  generalize hl : s.data.toList = l at hsz
  have key : ∃ u H', Lc V O F_lex_Tokens [.string s] H u H' ∧ ∃ v o, (u = .tuple #[v, .int .i64 (lexR l).2.1, .int .i64 (lexR l).2.2] ∧ Fr H H' ∧ Ow H' H.next 36 3 v (lexR l).1.length (tokCells (lexR l).1) o) := by
    refine Lc.lex_Tokens (R := fun u H' => ∃ v o, (u = .tuple #[v, .int .i64 (lexR l).2.1, .int .i64 (lexR l).2.2] ∧ Fr H H' ∧ Ow H' H.next 36 3 v (lexR l).1.length (tokCells (lexR l).1) o)) (hO _ _ _ (by decide)) (Nat.le_of_ble_eq_true rfl) (by kernel_rfl) ?_
    have none_ : ∀ (a b : Nat) H', Fr H H' → lexR l = ([], a, b) → ∃ v o, (resOf [.slice none 0 0, .int .i64 a, .int .i64 b] = .tuple #[v, .int .i64 (lexR l).2.1, .int .i64 (lexR l).2.2] ∧ Fr H H' ∧ Ow H' H.next 36 3 v (lexR l).1.length (tokCells (lexR l).1) o) := fun a b H' hf e => by
      rw [e]; exact ⟨_, none, rfl, hf, .nil⟩
    unfold P_lex_Tokens
    rcases Nat.lt_or_ge 65536 l.length with h1 | h1
    · have g1 : decide ((s.size : Int) > 65536) = true := decide_eq_true (by omega)
      (repeat first | refine zSeq ?_ | refine zReg ?_ | refine zBlk ?_ | refine zSkp ?_ | refine zExt ?_ | refine zNil rfl ?_ | refine zGet rfl ?_ | refine zOn rfl rfl ?_ | refine zOff rfl rfl ?_ | refine zU rfl ?_ | refine zOn rfl (by assumption) ?_ | refine zOff rfl (by assumption) ?_ | refine zMov rfl ?_ | refine zAsg rfl ?_ | refine zXtr rfl ?_ | refine zPT rfl rfl rfl ?_ | refine zPF rfl rfl rfl ?_ | refine zPT rfl (by assumption) rfl ?_ | refine zPF rfl (by assumption) rfl ?_ | refine zLss rfl rfl ?_ | refine zLeq rfl rfl ?_ | refine zGtr rfl rfl ?_ | refine zGeq rfl rfl ?_ | refine zEql rfl rfl ?_ | refine zNeq rfl rfl ?_ | refine zAdd rfl rfl (by omega) ?_ | refine zSub rfl rfl (by omega) ?_ | refine zLenS rfl E_string ?_ | refine zNot rfl ?_ | refine zEqS rfl rfl ?_ | refine zNeS rfl rfl ?_ | refine zT rfl rfl ?_ | refine zF rfl rfl ?_ | refine zT rfl (by assumption) ?_ | refine zF rfl (by assumption) ?_ | refine zLen rfl (hv.len E_s_string) ?_)
      exact WP.ret ⟨.inr rfl, _, rfl, none_ 0 40 H (.refl _) (by rw [lexR, if_pos h1])⟩
    have g1 : decide ((s.size : Int) > 65536) = false := decide_eq_false (by omega)
    (repeat first | refine zSeq ?_ | refine zReg ?_ | refine zBlk ?_ | refine zSkp ?_ | refine zExt ?_ | refine zNil rfl ?_ | refine zGet rfl ?_ | refine zOn rfl rfl ?_ | refine zOff rfl rfl ?_ | refine zU rfl ?_ | refine zOn rfl (by assumption) ?_ | refine zOff rfl (by assumption) ?_ | refine zMov rfl ?_ | refine zAsg rfl ?_ | refine zXtr rfl ?_ | refine zPT rfl rfl rfl ?_ | refine zPF rfl rfl rfl ?_ | refine zPT rfl (by assumption) rfl ?_ | refine zPF rfl (by assumption) rfl ?_ | refine zLss rfl rfl ?_ | refine zLeq rfl rfl ?_ | refine zGtr rfl rfl ?_ | refine zGeq rfl rfl ?_ | refine zEql rfl rfl ?_ | refine zNeq rfl rfl ?_ | refine zAdd rfl rfl (by omega) ?_ | refine zSub rfl rfl (by omega) ?_ | refine zLenS rfl E_string ?_ | refine zNot rfl ?_ | refine zEqS rfl rfl ?_ | refine zNeS rfl rfl ?_ | refine zT rfl rfl ?_ | refine zF rfl rfl ?_ | refine zT rfl (by assumption) ?_ | refine zF rfl (by assumption) ?_ | refine zLen rfl (hv.len E_s_string) ?_)
    refine WP.loopH (σ := Nat × List Tok × Value × Option (Nat × Nat)) (fun x => [(0, .string s), (5, x.2.2.1), (6, .int .i64 x.1)])
      (fun x H' => Fr H H' ∧ Ow H' H.next 36 3 x.2.2.1 x.2.1.length (tokCells x.2.1) x.2.2.2 ∧ x.1 ≤ l.length ∧ x.2.1.length ≤ x.1 ∧ toks false 0 l = (toks false x.1 (l.drop x.1)).map (x.2.1 ++ ·)) (fun x => l.length - x.1) (0, [], .slice none 0 0, none)
      ⟨.refl _, .nil, by simp, by simp, by simp only [List.nil_append, List.drop_zero]; cases toks false 0 l <;> rfl⟩ ⟨rfl, rfl, rfl, trivial⟩ ?_
    rintro ⟨p, acc, v, o⟩ H1 ⟨hf, hw, hp, hap, hsc⟩
    simp only at hf hw hp hap hsc ⊢
    rcases Nat.lt_or_ge p l.length with h2 | h2
    · have g2 : decide ((p : Int) < s.size) = true := decide_eq_true (by omega)
      have hd : l.drop p = l[p] :: l.drop (p + 1) := List.drop_eq_getElem_cons h2
      have he : s.extract (p : Int).toNat s.size = str (l.drop p) := by rw [← hl]; exact ext_end s p
      have hsz' : (str (l.drop p)).size = l.length - p := by show (l.drop p).length = _; simp
      (repeat first | refine zSeq ?_ | refine zReg ?_ | refine zBlk ?_ | refine zSkp ?_ | refine zExt ?_ | refine zNil rfl ?_ | refine zGet rfl ?_ | refine zOn rfl rfl ?_ | refine zOff rfl rfl ?_ | refine zU rfl ?_ | refine zOn rfl (by assumption) ?_ | refine zOff rfl (by assumption) ?_ | refine zMov rfl ?_ | refine zAsg rfl ?_ | refine zXtr rfl ?_ | refine zPT rfl rfl rfl ?_ | refine zPF rfl rfl rfl ?_ | refine zPT rfl (by assumption) rfl ?_ | refine zPF rfl (by assumption) rfl ?_ | refine zLss rfl rfl ?_ | refine zLeq rfl rfl ?_ | refine zGtr rfl rfl ?_ | refine zGeq rfl rfl ?_ | refine zEql rfl rfl ?_ | refine zNeq rfl rfl ?_ | refine zAdd rfl rfl (by omega) ?_ | refine zSub rfl rfl (by omega) ?_ | refine zLenS rfl E_string ?_ | refine zNot rfl ?_ | refine zEqS rfl rfl ?_ | refine zNeS rfl rfl ?_ | refine zT rfl rfl ?_ | refine zF rfl rfl ?_ | refine zT rfl (by assumption) ?_ | refine zF rfl (by assumption) ?_ | refine zLen rfl (hv.len E_s_string) ?_)
      refine WL.op (op_sliceS rfl rfl E_string (by omega) (by omega)) ?_
      rw [he]
      refine WL.call rfl rfl is_lex_blank (blank_c hO (s := str (l.drop p)) (by omega) (by show l.drop p ≠ []; rw [hd]; exact List.cons_ne_nil _ _)) ?_
      show WL _ _ _ [.int .i64 (blankL (l.drop p)), _, _, _] _ _ _
      rcases Nat.lt_or_ge 0 (blankL (l.drop p)) with h3 | h3
      · have g3 : decide ((blankL (l.drop p) : Int) > 0) = true := decide_eq_true (by omega)
        have hb : blankL (l.drop p) ≤ l.length - p := by
          rw [hd]; unfold blankL; simp only
          have hlen : (l[p] :: l.drop (p + 1)).length = l.length - p := by rw [← hd]; simp
          rw [← hlen]
          split <;> exact (List.takeWhile_sublist _).length_le
        (repeat first | refine zSeq ?_ | refine zReg ?_ | refine zBlk ?_ | refine zSkp ?_ | refine zExt ?_ | refine zNil rfl ?_ | refine zGet rfl ?_ | refine zOn rfl rfl ?_ | refine zOff rfl rfl ?_ | refine zU rfl ?_ | refine zOn rfl (by assumption) ?_ | refine zOff rfl (by assumption) ?_ | refine zMov rfl ?_ | refine zAsg rfl ?_ | refine zXtr rfl ?_ | refine zPT rfl rfl rfl ?_ | refine zPF rfl rfl rfl ?_ | refine zPT rfl (by assumption) rfl ?_ | refine zPF rfl (by assumption) rfl ?_ | refine zLss rfl rfl ?_ | refine zLeq rfl rfl ?_ | refine zGtr rfl rfl ?_ | refine zGeq rfl rfl ?_ | refine zEql rfl rfl ?_ | refine zNeq rfl rfl ?_ | refine zAdd rfl rfl (by omega) ?_ | refine zSub rfl rfl (by omega) ?_ | refine zLenS rfl E_string ?_ | refine zNot rfl ?_ | refine zEqS rfl rfl ?_ | refine zNeS rfl rfl ?_ | refine zT rfl rfl ?_ | refine zF rfl rfl ?_ | refine zT rfl (by assumption) ?_ | refine zF rfl (by assumption) ?_ | refine zLen rfl (hv.len E_s_string) ?_)
        refine ⟨(p + blankL (l.drop p), acc, v, o), ⟨hf, hw, by simp only; omega, by simp only; omega, ?_⟩, by simp only; omega, rfl, rfl, rfl, trivial⟩
        rw [hsc, toks_blank p, List.drop_drop]
      · have g3 : decide ((blankL (l.drop p) : Int) > 0) = false := decide_eq_false (by omega)
        (repeat first | refine zSeq ?_ | refine zReg ?_ | refine zBlk ?_ | refine zSkp ?_ | refine zExt ?_ | refine zNil rfl ?_ | refine zGet rfl ?_ | refine zOn rfl rfl ?_ | refine zOff rfl rfl ?_ | refine zU rfl ?_ | refine zOn rfl (by assumption) ?_ | refine zOff rfl (by assumption) ?_ | refine zMov rfl ?_ | refine zAsg rfl ?_ | refine zXtr rfl ?_ | refine zPT rfl rfl rfl ?_ | refine zPF rfl rfl rfl ?_ | refine zPT rfl (by assumption) rfl ?_ | refine zPF rfl (by assumption) rfl ?_ | refine zLss rfl rfl ?_ | refine zLeq rfl rfl ?_ | refine zGtr rfl rfl ?_ | refine zGeq rfl rfl ?_ | refine zEql rfl rfl ?_ | refine zNeq rfl rfl ?_ | refine zAdd rfl rfl (by omega) ?_ | refine zSub rfl rfl (by omega) ?_ | refine zLenS rfl E_string ?_ | refine zNot rfl ?_ | refine zEqS rfl rfl ?_ | refine zNeS rfl rfl ?_ | refine zT rfl rfl ?_ | refine zF rfl rfl ?_ | refine zT rfl (by assumption) ?_ | refine zF rfl (by assumption) ?_ | refine zLen rfl (hv.len E_s_string) ?_)
        refine WL.op (op_sliceS rfl rfl E_string (by omega) (by omega)) ?_
        rw [he]
        obtain ⟨H2, ht, hf2⟩ := token_c (H := H1) hO (hS.fr hf) (s := str (l.drop p)) (by omega)
        refine WL.call rfl rfl is_lex_token ht ?_
        have hid : idleB false l[p] = false := blank_zero (r := l.drop (p + 1)) (by rw [← hd]; omega)
        cases hk : (tokB (str (l.drop p))).2.2
        · (repeat first | refine zSeq ?_ | refine zReg ?_ | refine zBlk ?_ | refine zSkp ?_ | refine zExt ?_ | refine zNil rfl ?_ | refine zGet rfl ?_ | refine zOn rfl rfl ?_ | refine zOff rfl rfl ?_ | refine zU rfl ?_ | refine zOn rfl (by assumption) ?_ | refine zOff rfl (by assumption) ?_ | refine zMov rfl ?_ | refine zAsg rfl ?_ | refine zXtr rfl ?_ | refine zPT rfl rfl rfl ?_ | refine zPF rfl rfl rfl ?_ | refine zPT rfl (by assumption) rfl ?_ | refine zPF rfl (by assumption) rfl ?_ | refine zLss rfl rfl ?_ | refine zLeq rfl rfl ?_ | refine zGtr rfl rfl ?_ | refine zGeq rfl rfl ?_ | refine zEql rfl rfl ?_ | refine zNeq rfl rfl ?_ | refine zAdd rfl rfl (by omega) ?_ | refine zSub rfl rfl (by omega) ?_ | refine zLenS rfl E_string ?_ | refine zNot rfl ?_ | refine zEqS rfl rfl ?_ | refine zNeS rfl rfl ?_ | refine zT rfl rfl ?_ | refine zF rfl rfl ?_ | refine zT rfl (by assumption) ?_ | refine zF rfl (by assumption) ?_ | refine zLen rfl (hv.len E_s_string) ?_)
          refine WP.ret ⟨.inr rfl, _, rfl, none_ p 63 H2 (hf.trans hf2) (lexR_bad h1 ?_)⟩
          rw [hsc, hd, toks_bad hid (by rw [← hd]; exact hk)]; rfl
        · have hpos := tok_pos (l := l.drop p) hk
          simp only [List.length_drop] at hpos
          unfold tokL at hpos
          generalize hkk : (tokB (str (l.drop p))).1 = kk
          generalize hnn : (tokB (str (l.drop p))).2.1 = nn at hpos
          have hx : s.extract (p : Int).toNat ((p : Int) + nn).toNat = str ((l.drop p).take nn) := by rw [← hl]; exact ext_str s p nn
          (repeat first | refine zSeq ?_ | refine zReg ?_ | refine zBlk ?_ | refine zSkp ?_ | refine zExt ?_ | refine zNil rfl ?_ | refine zGet rfl ?_ | refine zOn rfl rfl ?_ | refine zOff rfl rfl ?_ | refine zU rfl ?_ | refine zOn rfl (by assumption) ?_ | refine zOff rfl (by assumption) ?_ | refine zMov rfl ?_ | refine zAsg rfl ?_ | refine zXtr rfl ?_ | refine zPT rfl rfl rfl ?_ | refine zPF rfl rfl rfl ?_ | refine zPT rfl (by assumption) rfl ?_ | refine zPF rfl (by assumption) rfl ?_ | refine zLss rfl rfl ?_ | refine zLeq rfl rfl ?_ | refine zGtr rfl rfl ?_ | refine zGeq rfl rfl ?_ | refine zEql rfl rfl ?_ | refine zNeq rfl rfl ?_ | refine zAdd rfl rfl (by omega) ?_ | refine zSub rfl rfl (by omega) ?_ | refine zLenS rfl E_string ?_ | refine zNot rfl ?_ | refine zEqS rfl rfl ?_ | refine zNeS rfl rfl ?_ | refine zT rfl rfl ?_ | refine zF rfl rfl ?_ | refine zT rfl (by assumption) ?_ | refine zF rfl (by assumption) ?_ | refine zLen rfl (hv.len E_s_string) ?_)
          refine WL.op (op_sliceS2 rfl rfl rfl E_string (by omega) (by omega) (by omega)) ?_
          rw [hx]
          (repeat first | refine zSeq ?_ | refine zReg ?_ | refine zBlk ?_ | refine zSkp ?_ | refine zExt ?_ | refine zNil rfl ?_ | refine zGet rfl ?_ | refine zOn rfl rfl ?_ | refine zOff rfl rfl ?_ | refine zU rfl ?_ | refine zOn rfl (by assumption) ?_ | refine zOff rfl (by assumption) ?_ | refine zMov rfl ?_ | refine zAsg rfl ?_ | refine zXtr rfl ?_ | refine zPT rfl rfl rfl ?_ | refine zPF rfl rfl rfl ?_ | refine zPT rfl (by assumption) rfl ?_ | refine zPF rfl (by assumption) rfl ?_ | refine zLss rfl rfl ?_ | refine zLeq rfl rfl ?_ | refine zGtr rfl rfl ?_ | refine zGeq rfl rfl ?_ | refine zEql rfl rfl ?_ | refine zNeq rfl rfl ?_ | refine zAdd rfl rfl (by omega) ?_ | refine zSub rfl rfl (by omega) ?_ | refine zLenS rfl E_string ?_ | refine zNot rfl ?_ | refine zEqS rfl rfl ?_ | refine zNeS rfl rfl ?_ | refine zT rfl rfl ?_ | refine zF rfl rfl ?_ | refine zT rfl (by assumption) ?_ | refine zF rfl (by assumption) ?_ | refine zLen rfl (hv.len E_s_string) ?_)
          refine WL.op (op_build rfl build36) ?_
          refine WL.op (op_buildSlice rfl E30 E36 (by rw [te36_size]; decide) fill36) ?_
          obtain ⟨v', H3, o', ha, hw', hfx, ho1, ho2⟩ := ((hw.fr hf2).fr (.alloc H2 (.row 36 [.int .u8 kk, .string (str ((l.drop p).take nn)), .int .i64 p] .exact 0 0))).app (m := 1) (bytes := 32) (new := [.int .u8 kk, .string (str ((l.drop p).take nn)), .int .i64 p])
            (by decide) (by decide) rfl (by omega) (by omega) (by have := hf.1; have := hf2.1; simp; omega)
          refine WL.op (op_append rfl rfl E30 E30 E36 (by decide) (by rw [te36_size]; exact rd_alloc rfl) rfl (by rw [te36_size, te36_bytes]; exact ha)) ?_
          (repeat first | refine zSeq ?_ | refine zReg ?_ | refine zBlk ?_ | refine zSkp ?_ | refine zExt ?_ | refine zNil rfl ?_ | refine zGet rfl ?_ | refine zOn rfl rfl ?_ | refine zOff rfl rfl ?_ | refine zU rfl ?_ | refine zOn rfl (by assumption) ?_ | refine zOff rfl (by assumption) ?_ | refine zMov rfl ?_ | refine zAsg rfl ?_ | refine zXtr rfl ?_ | refine zPT rfl rfl rfl ?_ | refine zPF rfl rfl rfl ?_ | refine zPT rfl (by assumption) rfl ?_ | refine zPF rfl (by assumption) rfl ?_ | refine zLss rfl rfl ?_ | refine zLeq rfl rfl ?_ | refine zGtr rfl rfl ?_ | refine zGeq rfl rfl ?_ | refine zEql rfl rfl ?_ | refine zNeq rfl rfl ?_ | refine zAdd rfl rfl (by omega) ?_ | refine zSub rfl rfl (by omega) ?_ | refine zLenS rfl E_string ?_ | refine zNot rfl ?_ | refine zEqS rfl rfl ?_ | refine zNeS rfl rfl ?_ | refine zT rfl rfl ?_ | refine zF rfl rfl ?_ | refine zT rfl (by assumption) ?_ | refine zF rfl (by assumption) ?_ | refine zLen rfl (hv.len E_s_string) ?_)
          have hf3 : Fr H H3 := ((hf.trans hf2).trans (.alloc _ _)).young hfx (fun b hb => hw.young.1 b hb) (fun b hb => hw.young.2.1 b hb)
          refine ⟨(p + nn, acc ++ [⟨kk, (l.drop p).take nn, p⟩], v', o'), ⟨hf3, ?_, by simp only; omega, by simp; omega, ?_⟩, by simp only; omega, rfl, rfl, rfl, trivial⟩
          · simp only [List.length_append, tokCells_app]; exact hw'
          · simp only
            have e1 : (tokL (l[p] :: l.drop (p + 1))).1 = kk := by rw [← hd]; exact hkk
            have e2 : (tokL (l[p] :: l.drop (p + 1))).2.1 = nn := by rw [← hd]; exact hnn
            rw [hsc, hd, toks_tok hid (by rw [← hd]; exact hk), e1, e2, ← hd, List.drop_drop]
            cases toks false (p + nn) (l.drop (p + nn)) <;> simp [Except.map]
    · have g2 : decide ((p : Int) < s.size) = false := decide_eq_false (by omega)
      (repeat first | refine zSeq ?_ | refine zReg ?_ | refine zBlk ?_ | refine zSkp ?_ | refine zExt ?_ | refine zNil rfl ?_ | refine zGet rfl ?_ | refine zOn rfl rfl ?_ | refine zOff rfl rfl ?_ | refine zU rfl ?_ | refine zOn rfl (by assumption) ?_ | refine zOff rfl (by assumption) ?_ | refine zMov rfl ?_ | refine zAsg rfl ?_ | refine zXtr rfl ?_ | refine zPT rfl rfl rfl ?_ | refine zPF rfl rfl rfl ?_ | refine zPT rfl (by assumption) rfl ?_ | refine zPF rfl (by assumption) rfl ?_ | refine zLss rfl rfl ?_ | refine zLeq rfl rfl ?_ | refine zGtr rfl rfl ?_ | refine zGeq rfl rfl ?_ | refine zEql rfl rfl ?_ | refine zNeq rfl rfl ?_ | refine zAdd rfl rfl (by omega) ?_ | refine zSub rfl rfl (by omega) ?_ | refine zLenS rfl E_string ?_ | refine zNot rfl ?_ | refine zEqS rfl rfl ?_ | refine zNeS rfl rfl ?_ | refine zT rfl rfl ?_ | refine zF rfl rfl ?_ | refine zT rfl (by assumption) ?_ | refine zF rfl (by assumption) ?_ | refine zLen rfl (hv.len E_s_string) ?_)
      refine WP.ret ⟨.inr rfl, _, rfl, v, o, ?_, hf, ?_⟩
      all_goals rw [lexR_ok h1 (ts := acc) (by rw [hsc, List.drop_eq_nil_iff.2 h2, toks_nil]; simp [Except.map])]
      · rfl
      · exact hw
  obtain ⟨u, H', h, v, o, rfl, h1, h2⟩ := key
  unfold LexC
  rw [hl]
  exact ⟨v, H', o, h, h1, h2⟩
end Go.Proofs.YtdkfcpadbahohaaDoor.U

/-
  Contract of the document's Tokens: its number and its sign.
-/
namespace Go.Proofs.YtdkfcpadbahohaaDoor.U
open Go Go.Ev
attribute [local irreducible] WL WP WH W
variable {O : Orc} {H : AH}
def two : List ByteArray := [⟨⟨[124, 124]⟩⟩, ⟨⟨[38, 38]⟩⟩, ⟨⟨[60, 61]⟩⟩, ⟨⟨[62, 61]⟩⟩, ⟨⟨[61, 61]⟩⟩, ⟨⟨[33, 61]⟩⟩]
def one : List ByteArray := [⟨⟨[60]⟩⟩, ⟨⟨[62]⟩⟩, ⟨⟨[61]⟩⟩, ⟨⟨[43]⟩⟩, ⟨⟨[45]⟩⟩, ⟨⟨[42]⟩⟩, ⟨⟨[47]⟩⟩, ⟨⟨[37]⟩⟩, ⟨⟨[33]⟩⟩, ⟨⟨[40]⟩⟩, ⟨⟨[41]⟩⟩, ⟨⟨[123]⟩⟩, ⟨⟨[125]⟩⟩, ⟨⟨[91]⟩⟩, ⟨⟨[93]⟩⟩, ⟨⟨[59]⟩⟩, ⟨⟨[44]⟩⟩]
def rsign (s : ByteArray) : Nat := if decide (1 < s.size) && among (s.extract 0 2) two then 2 else if among (s.extract 0 1) one then 1 else 0
theorem rsign_c (hO : ∀ f vs H, f ≠ 8 → O f vs H = none) {s : ByteArray} (hne : 0 < s.size) : ∃ H', Lc V O F_ref01_sign [.string s] H (.int .i64 (rsign s)) H' ∧ Fr H H' := by
  have key : ∃ u H', Lc V O F_ref01_sign [.string s] H u H' ∧ (u = .int .i64 (rsign s) ∧ Fr H H') := by
    refine Lc.ref01_sign (R := fun u H' => u = .int .i64 (rsign s) ∧ Fr H H') (hO _ _ _ (by decide)) (Nat.le_of_ble_eq_true rfl) (by kernel_rfl) ?_
    unfold P_ref01_sign
    have rest : ∀ H1, Fr H H1 → (decide (1 < s.size) && among (s.extract 0 2) two) = false → ∀ l, Ev.look l 0 = some (.string s) → WP V O (some (liveOf Tryd.f27 c_ref01_sign)) Tryd.f27.ntmps (match P_ref01_sign with | .seq _ (.seq _ p) => p | p => p) l H1 fun e l H' => (e = .normal ∨ e = .ret) ∧ ∃ rs, resL V l H' Tryd.f27.results.toList = some rs ∧ (resOf rs = .int .i64 (rsign s) ∧ Fr H H') := fun H1 hf h2 l hl => by
      unfold P_ref01_sign
      simp only
      refine .sub (l' := [(0, .string s)]) ?_ (fun t v h => by
        simp only [Ev.look] at h
        split at h
        · rename_i e; subst e; cases h; exact hl
        · cases h)
      refine WP.seq ?_
      (repeat first | refine zSeq ?_ | refine zReg ?_ | refine zBlk ?_ | refine zSkp ?_ | refine zExt ?_ | refine zNil rfl ?_ | refine zGet rfl ?_ | refine zOn rfl rfl ?_ | refine zOff rfl rfl ?_ | refine zU rfl ?_ | refine zOn rfl (by assumption) ?_ | refine zOff rfl (by assumption) ?_ | refine zMov rfl ?_ | refine zAsg rfl ?_ | refine zXtr rfl ?_ | refine zPT rfl rfl rfl ?_ | refine zPF rfl rfl rfl ?_ | refine zPT rfl (by assumption) rfl ?_ | refine zPF rfl (by assumption) rfl ?_ | refine zLss rfl rfl ?_ | refine zLeq rfl rfl ?_ | refine zGtr rfl rfl ?_ | refine zGeq rfl rfl ?_ | refine zEql rfl rfl ?_ | refine zNeq rfl rfl ?_ | refine zAdd rfl rfl (by omega) ?_ | refine zSub rfl rfl (by omega) ?_ | refine zLenS rfl E_string ?_ | refine zNot rfl ?_ | refine zEqS rfl rfl ?_ | refine zNeS rfl rfl ?_ | refine zT rfl rfl ?_ | refine zF rfl rfl ?_ | refine zT rfl (by assumption) ?_ | refine zF rfl (by assumption) ?_ | refine zLen rfl (hv.len E_s_string) ?_)
      refine WL.op (op_sliceH rfl rfl E_string (by decide) (by omega)) ?_
      refine WL.op (op_buildSlice rfl E_s_string E_string (by decide) rfl) ?_
      refine WL.call rfl rfl is_ref01_among (among_c hO (strs := one) (OneAt.toSl (by decide))) ?_
      have hx : s.extract 0 (1 : Int).toNat = s.extract 0 1 := rfl
      rw [hx]
      cases h1 : among (s.extract 0 1) one
      · (repeat first | refine zSeq ?_ | refine zReg ?_ | refine zBlk ?_ | refine zSkp ?_ | refine zExt ?_ | refine zNil rfl ?_ | refine zGet rfl ?_ | refine zOn rfl rfl ?_ | refine zOff rfl rfl ?_ | refine zU rfl ?_ | refine zOn rfl (by assumption) ?_ | refine zOff rfl (by assumption) ?_ | refine zMov rfl ?_ | refine zAsg rfl ?_ | refine zXtr rfl ?_ | refine zPT rfl rfl rfl ?_ | refine zPF rfl rfl rfl ?_ | refine zPT rfl (by assumption) rfl ?_ | refine zPF rfl (by assumption) rfl ?_ | refine zLss rfl rfl ?_ | refine zLeq rfl rfl ?_ | refine zGtr rfl rfl ?_ | refine zGeq rfl rfl ?_ | refine zEql rfl rfl ?_ | refine zNeq rfl rfl ?_ | refine zAdd rfl rfl (by omega) ?_ | refine zSub rfl rfl (by omega) ?_ | refine zLenS rfl E_string ?_ | refine zNot rfl ?_ | refine zEqS rfl rfl ?_ | refine zNeS rfl rfl ?_ | refine zT rfl rfl ?_ | refine zF rfl rfl ?_ | refine zT rfl (by assumption) ?_ | refine zF rfl (by assumption) ?_ | refine zLen rfl (hv.len E_s_string) ?_)
        exact WP.ret ⟨.inr rfl, _, rfl, by rw [rsign, h2, if_neg (by decide), h1]; rfl, hf.step _⟩
      · (repeat first | refine zSeq ?_ | refine zReg ?_ | refine zBlk ?_ | refine zSkp ?_ | refine zExt ?_ | refine zNil rfl ?_ | refine zGet rfl ?_ | refine zOn rfl rfl ?_ | refine zOff rfl rfl ?_ | refine zU rfl ?_ | refine zOn rfl (by assumption) ?_ | refine zOff rfl (by assumption) ?_ | refine zMov rfl ?_ | refine zAsg rfl ?_ | refine zXtr rfl ?_ | refine zPT rfl rfl rfl ?_ | refine zPF rfl rfl rfl ?_ | refine zPT rfl (by assumption) rfl ?_ | refine zPF rfl (by assumption) rfl ?_ | refine zLss rfl rfl ?_ | refine zLeq rfl rfl ?_ | refine zGtr rfl rfl ?_ | refine zGeq rfl rfl ?_ | refine zEql rfl rfl ?_ | refine zNeq rfl rfl ?_ | refine zAdd rfl rfl (by omega) ?_ | refine zSub rfl rfl (by omega) ?_ | refine zLenS rfl E_string ?_ | refine zNot rfl ?_ | refine zEqS rfl rfl ?_ | refine zNeS rfl rfl ?_ | refine zT rfl rfl ?_ | refine zF rfl rfl ?_ | refine zT rfl (by assumption) ?_ | refine zF rfl (by assumption) ?_ | refine zLen rfl (hv.len E_s_string) ?_)
        exact WP.ret ⟨.inr rfl, _, rfl, by rw [rsign, h2, if_neg (by decide), h1]; rfl, hf.step _⟩
    refine WP.seq ?_
    refine WP.reg ?_
    refine WL.op (o := .assign _) rfl ?_
    refine WL.nil ⟨_, rfl, ?_⟩
    refine WP.seq ?_
    refine WP.seq ?_
    rcases Nat.lt_or_ge 1 s.size with h | h
    · have g1 : decide ((s.size : Int) > 1) = true := decide_eq_true (by omega)
      (repeat first | refine zSeq ?_ | refine zReg ?_ | refine zBlk ?_ | refine zSkp ?_ | refine zExt ?_ | refine zNil rfl ?_ | refine zGet rfl ?_ | refine zOn rfl rfl ?_ | refine zOff rfl rfl ?_ | refine zU rfl ?_ | refine zOn rfl (by assumption) ?_ | refine zOff rfl (by assumption) ?_ | refine zMov rfl ?_ | refine zAsg rfl ?_ | refine zXtr rfl ?_ | refine zPT rfl rfl rfl ?_ | refine zPF rfl rfl rfl ?_ | refine zPT rfl (by assumption) rfl ?_ | refine zPF rfl (by assumption) rfl ?_ | refine zLss rfl rfl ?_ | refine zLeq rfl rfl ?_ | refine zGtr rfl rfl ?_ | refine zGeq rfl rfl ?_ | refine zEql rfl rfl ?_ | refine zNeq rfl rfl ?_ | refine zAdd rfl rfl (by omega) ?_ | refine zSub rfl rfl (by omega) ?_ | refine zLenS rfl E_string ?_ | refine zNot rfl ?_ | refine zEqS rfl rfl ?_ | refine zNeS rfl rfl ?_ | refine zT rfl rfl ?_ | refine zF rfl rfl ?_ | refine zT rfl (by assumption) ?_ | refine zF rfl (by assumption) ?_ | refine zLen rfl (hv.len E_s_string) ?_)
      refine WL.op (op_sliceH rfl rfl E_string (by decide) (by omega)) ?_
      (repeat first | refine zSeq ?_ | refine zReg ?_ | refine zBlk ?_ | refine zSkp ?_ | refine zExt ?_ | refine zNil rfl ?_ | refine zGet rfl ?_ | refine zOn rfl rfl ?_ | refine zOff rfl rfl ?_ | refine zU rfl ?_ | refine zOn rfl (by assumption) ?_ | refine zOff rfl (by assumption) ?_ | refine zMov rfl ?_ | refine zAsg rfl ?_ | refine zXtr rfl ?_ | refine zPT rfl rfl rfl ?_ | refine zPF rfl rfl rfl ?_ | refine zPT rfl (by assumption) rfl ?_ | refine zPF rfl (by assumption) rfl ?_ | refine zLss rfl rfl ?_ | refine zLeq rfl rfl ?_ | refine zGtr rfl rfl ?_ | refine zGeq rfl rfl ?_ | refine zEql rfl rfl ?_ | refine zNeq rfl rfl ?_ | refine zAdd rfl rfl (by omega) ?_ | refine zSub rfl rfl (by omega) ?_ | refine zLenS rfl E_string ?_ | refine zNot rfl ?_ | refine zEqS rfl rfl ?_ | refine zNeS rfl rfl ?_ | refine zT rfl rfl ?_ | refine zF rfl rfl ?_ | refine zT rfl (by assumption) ?_ | refine zF rfl (by assumption) ?_ | refine zLen rfl (hv.len E_s_string) ?_)
      refine WL.op (op_buildSlice rfl E_s_string E_string (by decide) rfl) ?_
      (repeat first | refine zSeq ?_ | refine zReg ?_ | refine zBlk ?_ | refine zSkp ?_ | refine zExt ?_ | refine zNil rfl ?_ | refine zGet rfl ?_ | refine zOn rfl rfl ?_ | refine zOff rfl rfl ?_ | refine zU rfl ?_ | refine zOn rfl (by assumption) ?_ | refine zOff rfl (by assumption) ?_ | refine zMov rfl ?_ | refine zAsg rfl ?_ | refine zXtr rfl ?_ | refine zPT rfl rfl rfl ?_ | refine zPF rfl rfl rfl ?_ | refine zPT rfl (by assumption) rfl ?_ | refine zPF rfl (by assumption) rfl ?_ | refine zLss rfl rfl ?_ | refine zLeq rfl rfl ?_ | refine zGtr rfl rfl ?_ | refine zGeq rfl rfl ?_ | refine zEql rfl rfl ?_ | refine zNeq rfl rfl ?_ | refine zAdd rfl rfl (by omega) ?_ | refine zSub rfl rfl (by omega) ?_ | refine zLenS rfl E_string ?_ | refine zNot rfl ?_ | refine zEqS rfl rfl ?_ | refine zNeS rfl rfl ?_ | refine zT rfl rfl ?_ | refine zF rfl rfl ?_ | refine zT rfl (by assumption) ?_ | refine zF rfl (by assumption) ?_ | refine zLen rfl (hv.len E_s_string) ?_)
      refine WL.call rfl rfl is_ref01_among (among_c hO (strs := two) (OneAt.toSl (by decide))) ?_
      have hx : s.extract 0 (2 : Int).toNat = s.extract 0 2 := rfl
      rw [hx]
      cases h1 : among (s.extract 0 2) two
      · (repeat first | refine zReg ?_ | refine zSkp ?_ | refine zExt ?_ | refine zNil rfl ?_ | refine zGet rfl ?_ | refine zOn rfl rfl ?_ | refine zOff rfl rfl ?_ | refine zU rfl ?_ | refine zOn rfl (by assumption) ?_ | refine zOff rfl (by assumption) ?_ | refine zMov rfl ?_ | refine zAsg rfl ?_ | refine zXtr rfl ?_ | refine zPT rfl rfl rfl ?_ | refine zPF rfl rfl rfl ?_ | refine zPT rfl (by assumption) rfl ?_ | refine zPF rfl (by assumption) rfl ?_ | refine zLss rfl rfl ?_ | refine zLeq rfl rfl ?_ | refine zGtr rfl rfl ?_ | refine zGeq rfl rfl ?_ | refine zEql rfl rfl ?_ | refine zNeq rfl rfl ?_ | refine zAdd rfl rfl (by omega) ?_ | refine zSub rfl rfl (by omega) ?_ | refine zLenS rfl E_string ?_ | refine zNot rfl ?_ | refine zEqS rfl rfl ?_ | refine zNeS rfl rfl ?_ | refine zT rfl rfl ?_ | refine zF rfl rfl ?_ | refine zT rfl (by assumption) ?_ | refine zF rfl (by assumption) ?_ | refine zLen rfl (hv.len E_s_string) ?_)
        exact rest _ (.alloc _ _) (by rw [h1, Bool.and_false]) _ rfl
      · (repeat first | refine zSeq ?_ | refine zReg ?_ | refine zBlk ?_ | refine zSkp ?_ | refine zExt ?_ | refine zNil rfl ?_ | refine zGet rfl ?_ | refine zOn rfl rfl ?_ | refine zOff rfl rfl ?_ | refine zU rfl ?_ | refine zOn rfl (by assumption) ?_ | refine zOff rfl (by assumption) ?_ | refine zMov rfl ?_ | refine zAsg rfl ?_ | refine zXtr rfl ?_ | refine zPT rfl rfl rfl ?_ | refine zPF rfl rfl rfl ?_ | refine zPT rfl (by assumption) rfl ?_ | refine zPF rfl (by assumption) rfl ?_ | refine zLss rfl rfl ?_ | refine zLeq rfl rfl ?_ | refine zGtr rfl rfl ?_ | refine zGeq rfl rfl ?_ | refine zEql rfl rfl ?_ | refine zNeq rfl rfl ?_ | refine zAdd rfl rfl (by omega) ?_ | refine zSub rfl rfl (by omega) ?_ | refine zLenS rfl E_string ?_ | refine zNot rfl ?_ | refine zEqS rfl rfl ?_ | refine zNeS rfl rfl ?_ | refine zT rfl rfl ?_ | refine zF rfl rfl ?_ | refine zT rfl (by assumption) ?_ | refine zF rfl (by assumption) ?_ | refine zLen rfl (hv.len E_s_string) ?_)
        exact WP.ret ⟨.inr rfl, _, rfl, by rw [rsign, decide_eq_true h, h1]; rfl, .alloc _ _⟩
    · have g1 : decide ((s.size : Int) > 1) = false := decide_eq_false (by omega)
      (repeat first | refine zReg ?_ | refine zSkp ?_ | refine zExt ?_ | refine zNil rfl ?_ | refine zGet rfl ?_ | refine zOn rfl rfl ?_ | refine zOff rfl rfl ?_ | refine zU rfl ?_ | refine zOn rfl (by assumption) ?_ | refine zOff rfl (by assumption) ?_ | refine zMov rfl ?_ | refine zAsg rfl ?_ | refine zXtr rfl ?_ | refine zPT rfl rfl rfl ?_ | refine zPF rfl rfl rfl ?_ | refine zPT rfl (by assumption) rfl ?_ | refine zPF rfl (by assumption) rfl ?_ | refine zLss rfl rfl ?_ | refine zLeq rfl rfl ?_ | refine zGtr rfl rfl ?_ | refine zGeq rfl rfl ?_ | refine zEql rfl rfl ?_ | refine zNeq rfl rfl ?_ | refine zAdd rfl rfl (by omega) ?_ | refine zSub rfl rfl (by omega) ?_ | refine zLenS rfl E_string ?_ | refine zNot rfl ?_ | refine zEqS rfl rfl ?_ | refine zNeS rfl rfl ?_ | refine zT rfl rfl ?_ | refine zF rfl rfl ?_ | refine zT rfl (by assumption) ?_ | refine zF rfl (by assumption) ?_ | refine zLen rfl (hv.len E_s_string) ?_)
      exact rest _ (.refl _) (by rw [decide_eq_false (by omega), Bool.false_and]) _ rfl
  obtain ⟨u, H', h, rfl, hk⟩ := key
  exact ⟨H', h, hk⟩
def val (l : List UInt8) : Nat := l.foldl (fun n c => n * 10 + (c.toNat - 48)) 0
def rnumB (s : ByteArray) : Bool := decide (s.size ≤ 19) && !(decide (1 < s.size) && ((s.data.toList.headD 0).toNat : Int) == 48) && decide (val s.data.toList ≤ 9223372036854775808)
theorem val_take {l : List UInt8} {i : Nat} (h : i < l.length) : val (l.take (i + 1)) = val (l.take i) * 10 + (l[i].toNat - 48) := by
  have : l.take (i + 1) = l.take i ++ [l[i]] := by rw [List.take_add_one]; simp [h]
  rw [val, this, List.foldl_append]; rfl
theorem val_lt {l : List UInt8} (hd : ∀ c ∈ l, dig c.toNat = true) : ∀ i, i ≤ l.length → val (l.take i) < 10 ^ i
  | 0, _ => by simp [val]
  | i + 1, h => by
    have := val_lt hd i (by omega)
    have hc := hd l[i] (List.getElem_mem _)
    simp only [dig, Bool.and_eq_true, decide_eq_true_eq] at hc
    rw [val_take (by omega), Nat.pow_succ]
    omega
theorem u5 : V.P.underlying 5 = some (.int .u8) := by kernel_rfl
theorem u52 : V.P.underlying 52 = some (.int .u64) := by kernel_rfl
theorem rnumber_c (hO : ∀ f vs H, f ≠ 8 → O f vs H = none) {s : ByteArray} (hne : 0 < s.size) (hdg : ∀ c ∈ s.data.toList, dig c.toNat = true) : Lc V O F_ref01_number [.string s] H (.bool (rnumB s)) H := Lc.of_eq <| by
  have hsz : s.size = s.data.toList.length := rfl
  have hidx : s.data.toList[(0 : Int).toNat]? = some (s.data.toList.headD 0) := by
    cases hl : s.data.toList with
    | nil => rw [hl] at hsz; simp only [List.length_nil] at hsz; omega
    | cons a b => rfl
  have fin : ∀ b : Bool, rnumB s = b → (resOf [Value.bool b] = .bool (rnumB s) ∧ H = H) := fun b h => by rw [h]; exact ⟨rfl, rfl⟩
  generalize hl : s.data.toList = l at hsz hdg
  refine Lc.ref01_number (hO _ _ _ (by decide)) (Nat.le_of_ble_eq_true rfl) (by kernel_rfl) ?_
  unfold P_ref01_number
  refine WP.seq ?_
  (repeat first | refine zReg ?_ | refine zSkp ?_ | refine zExt ?_ | refine zNil rfl ?_ | refine zGet rfl ?_ | refine zOn rfl rfl ?_ | refine zOff rfl rfl ?_ | refine zU rfl ?_ | refine zOn rfl (by assumption) ?_ | refine zOff rfl (by assumption) ?_ | refine zMov rfl ?_ | refine zAsg rfl ?_ | refine zXtr rfl ?_ | refine zPT rfl rfl rfl ?_ | refine zPF rfl rfl rfl ?_ | refine zPT rfl (by assumption) rfl ?_ | refine zPF rfl (by assumption) rfl ?_ | refine zLss rfl rfl ?_ | refine zLeq rfl rfl ?_ | refine zGtr rfl rfl ?_ | refine zGeq rfl rfl ?_ | refine zEql rfl rfl ?_ | refine zNeq rfl rfl ?_ | refine zAdd rfl rfl (by omega) ?_ | refine zSub rfl rfl (by omega) ?_ | refine zLenS rfl E_string ?_ | refine zNot rfl ?_ | refine zEqS rfl rfl ?_ | refine zNeS rfl rfl ?_ | refine zT rfl rfl ?_ | refine zF rfl rfl ?_ | refine zT rfl (by assumption) ?_ | refine zF rfl (by assumption) ?_ | refine zLen rfl (hv.len E_s_string) ?_)
  refine WP.seqS (σ := Unit) (fun _ => [(0, .string s)]) (fun _ H' => H = H' ∧ l.length ≤ 19 ∧ (decide (1 < s.size) && ((l.headD 0).toNat : Int) == 48) = false) ?_ ?_
  · rcases Nat.lt_or_ge 19 l.length with h | h
    · have g1 : decide ((s.size : Int) > 19) = true := decide_eq_true (by omega)
      (repeat first | refine zSeq ?_ | refine zReg ?_ | refine zBlk ?_ | refine zSkp ?_ | refine zExt ?_ | refine zNil rfl ?_ | refine zGet rfl ?_ | refine zOn rfl rfl ?_ | refine zOff rfl rfl ?_ | refine zU rfl ?_ | refine zOn rfl (by assumption) ?_ | refine zOff rfl (by assumption) ?_ | refine zMov rfl ?_ | refine zAsg rfl ?_ | refine zXtr rfl ?_ | refine zPT rfl rfl rfl ?_ | refine zPF rfl rfl rfl ?_ | refine zPT rfl (by assumption) rfl ?_ | refine zPF rfl (by assumption) rfl ?_ | refine zLss rfl rfl ?_ | refine zLeq rfl rfl ?_ | refine zGtr rfl rfl ?_ | refine zGeq rfl rfl ?_ | refine zEql rfl rfl ?_ | refine zNeq rfl rfl ?_ | refine zAdd rfl rfl (by omega) ?_ | refine zSub rfl rfl (by omega) ?_ | refine zLenS rfl E_string ?_ | refine zNot rfl ?_ | refine zEqS rfl rfl ?_ | refine zNeS rfl rfl ?_ | refine zT rfl rfl ?_ | refine zF rfl rfl ?_ | refine zT rfl (by assumption) ?_ | refine zF rfl (by assumption) ?_ | refine zLen rfl (hv.len E_s_string) ?_)
      exact WP.ret ⟨.inr rfl, _, rfl, fin false (by rw [rnumB, decide_eq_false (by omega)]; rfl)⟩
    have g1 : decide ((s.size : Int) > 19) = false := decide_eq_false (by omega)
    rcases Nat.lt_or_ge 1 l.length with h2 | h2
    · have g2 : decide ((s.size : Int) > 1) = true := decide_eq_true (by omega)
      (repeat first | refine zSeq ?_ | refine zReg ?_ | refine zBlk ?_ | refine zSkp ?_ | refine zExt ?_ | refine zNil rfl ?_ | refine zGet rfl ?_ | refine zOn rfl rfl ?_ | refine zOff rfl rfl ?_ | refine zU rfl ?_ | refine zOn rfl (by assumption) ?_ | refine zOff rfl (by assumption) ?_ | refine zMov rfl ?_ | refine zAsg rfl ?_ | refine zXtr rfl ?_ | refine zPT rfl rfl rfl ?_ | refine zPF rfl rfl rfl ?_ | refine zPT rfl (by assumption) rfl ?_ | refine zPF rfl (by assumption) rfl ?_ | refine zLss rfl rfl ?_ | refine zLeq rfl rfl ?_ | refine zGtr rfl rfl ?_ | refine zGeq rfl rfl ?_ | refine zEql rfl rfl ?_ | refine zNeq rfl rfl ?_ | refine zAdd rfl rfl (by omega) ?_ | refine zSub rfl rfl (by omega) ?_ | refine zLenS rfl E_string ?_ | refine zNot rfl ?_ | refine zEqS rfl rfl ?_ | refine zNeS rfl rfl ?_ | refine zT rfl rfl ?_ | refine zF rfl rfl ?_ | refine zT rfl (by assumption) ?_ | refine zF rfl (by assumption) ?_ | refine zLen rfl (hv.len E_s_string) ?_)
      refine WL.op (op_indexS rfl rfl E_string (by decide) hidx) ?_
      rw [hl]
      cases h3 : ((l.headD 0).toNat : Int) == 48
      · (repeat first | refine zSeq ?_ | refine zReg ?_ | refine zBlk ?_ | refine zSkp ?_ | refine zExt ?_ | refine zNil rfl ?_ | refine zGet rfl ?_ | refine zOn rfl rfl ?_ | refine zOff rfl rfl ?_ | refine zU rfl ?_ | refine zOn rfl (by assumption) ?_ | refine zOff rfl (by assumption) ?_ | refine zMov rfl ?_ | refine zAsg rfl ?_ | refine zXtr rfl ?_ | refine zPT rfl rfl rfl ?_ | refine zPF rfl rfl rfl ?_ | refine zPT rfl (by assumption) rfl ?_ | refine zPF rfl (by assumption) rfl ?_ | refine zLss rfl rfl ?_ | refine zLeq rfl rfl ?_ | refine zGtr rfl rfl ?_ | refine zGeq rfl rfl ?_ | refine zEql rfl rfl ?_ | refine zNeq rfl rfl ?_ | refine zAdd rfl rfl (by omega) ?_ | refine zSub rfl rfl (by omega) ?_ | refine zLenS rfl E_string ?_ | refine zNot rfl ?_ | refine zEqS rfl rfl ?_ | refine zNeS rfl rfl ?_ | refine zT rfl rfl ?_ | refine zF rfl rfl ?_ | refine zT rfl (by assumption) ?_ | refine zF rfl (by assumption) ?_ | refine zLen rfl (hv.len E_s_string) ?_)
        exact ⟨(), ⟨rfl, h, by rw [Bool.and_false]⟩, rfl, trivial⟩
      · (repeat first | refine zSeq ?_ | refine zReg ?_ | refine zBlk ?_ | refine zSkp ?_ | refine zExt ?_ | refine zNil rfl ?_ | refine zGet rfl ?_ | refine zOn rfl rfl ?_ | refine zOff rfl rfl ?_ | refine zU rfl ?_ | refine zOn rfl (by assumption) ?_ | refine zOff rfl (by assumption) ?_ | refine zMov rfl ?_ | refine zAsg rfl ?_ | refine zXtr rfl ?_ | refine zPT rfl rfl rfl ?_ | refine zPF rfl rfl rfl ?_ | refine zPT rfl (by assumption) rfl ?_ | refine zPF rfl (by assumption) rfl ?_ | refine zLss rfl rfl ?_ | refine zLeq rfl rfl ?_ | refine zGtr rfl rfl ?_ | refine zGeq rfl rfl ?_ | refine zEql rfl rfl ?_ | refine zNeq rfl rfl ?_ | refine zAdd rfl rfl (by omega) ?_ | refine zSub rfl rfl (by omega) ?_ | refine zLenS rfl E_string ?_ | refine zNot rfl ?_ | refine zEqS rfl rfl ?_ | refine zNeS rfl rfl ?_ | refine zT rfl rfl ?_ | refine zF rfl rfl ?_ | refine zT rfl (by assumption) ?_ | refine zF rfl (by assumption) ?_ | refine zLen rfl (hv.len E_s_string) ?_)
        exact WP.ret ⟨.inr rfl, _, rfl, fin false (by rw [rnumB, hl, h3, decide_eq_true (by omega : 1 < s.size)]; simp)⟩
    · have g2 : decide ((s.size : Int) > 1) = false := decide_eq_false (by omega)
      (repeat first | refine zSeq ?_ | refine zReg ?_ | refine zBlk ?_ | refine zSkp ?_ | refine zExt ?_ | refine zNil rfl ?_ | refine zGet rfl ?_ | refine zOn rfl rfl ?_ | refine zOff rfl rfl ?_ | refine zU rfl ?_ | refine zOn rfl (by assumption) ?_ | refine zOff rfl (by assumption) ?_ | refine zMov rfl ?_ | refine zAsg rfl ?_ | refine zXtr rfl ?_ | refine zPT rfl rfl rfl ?_ | refine zPF rfl rfl rfl ?_ | refine zPT rfl (by assumption) rfl ?_ | refine zPF rfl (by assumption) rfl ?_ | refine zLss rfl rfl ?_ | refine zLeq rfl rfl ?_ | refine zGtr rfl rfl ?_ | refine zGeq rfl rfl ?_ | refine zEql rfl rfl ?_ | refine zNeq rfl rfl ?_ | refine zAdd rfl rfl (by omega) ?_ | refine zSub rfl rfl (by omega) ?_ | refine zLenS rfl E_string ?_ | refine zNot rfl ?_ | refine zEqS rfl rfl ?_ | refine zNeS rfl rfl ?_ | refine zT rfl rfl ?_ | refine zF rfl rfl ?_ | refine zT rfl (by assumption) ?_ | refine zF rfl (by assumption) ?_ | refine zLen rfl (hv.len E_s_string) ?_)
      exact ⟨(), ⟨rfl, h, by rw [decide_eq_false (by omega)]; rfl⟩, rfl, trivial⟩
  · rintro _ _ ⟨rfl, h19, hz⟩
    (repeat first | refine zSeq ?_ | refine zReg ?_ | refine zBlk ?_ | refine zSkp ?_ | refine zExt ?_ | refine zNil rfl ?_ | refine zGet rfl ?_ | refine zOn rfl rfl ?_ | refine zOff rfl rfl ?_ | refine zU rfl ?_ | refine zOn rfl (by assumption) ?_ | refine zOff rfl (by assumption) ?_ | refine zMov rfl ?_ | refine zAsg rfl ?_ | refine zXtr rfl ?_ | refine zPT rfl rfl rfl ?_ | refine zPF rfl rfl rfl ?_ | refine zPT rfl (by assumption) rfl ?_ | refine zPF rfl (by assumption) rfl ?_ | refine zLss rfl rfl ?_ | refine zLeq rfl rfl ?_ | refine zGtr rfl rfl ?_ | refine zGeq rfl rfl ?_ | refine zEql rfl rfl ?_ | refine zNeq rfl rfl ?_ | refine zAdd rfl rfl (by omega) ?_ | refine zSub rfl rfl (by omega) ?_ | refine zLenS rfl E_string ?_ | refine zNot rfl ?_ | refine zEqS rfl rfl ?_ | refine zNeS rfl rfl ?_ | refine zT rfl rfl ?_ | refine zF rfl rfl ?_ | refine zT rfl (by assumption) ?_ | refine zF rfl (by assumption) ?_ | refine zLen rfl (hv.len E_s_string) ?_)
    refine WP.loopH (σ := Nat) (fun i => [(0, .string s), (3, .int .u64 (val (l.take i))), (4, .int .i64 i)]) (fun i H' => H = H' ∧ i ≤ l.length) (fun i => l.length - i) 0 ⟨rfl, by omega⟩ ⟨rfl, rfl, rfl, trivial⟩ ?_
    rintro i _ ⟨rfl, hi⟩
    have hv := val_lt hdg i hi
    have hv2 : val (l.take i) < 10000000000000000000 := Nat.lt_of_lt_of_le hv (Nat.pow_le_pow_right (by omega) (by omega) : 10 ^ i ≤ 10 ^ 19)
    rcases Nat.lt_or_ge i l.length with h | h
    · have g1 : decide ((i : Int) < s.size) = true := decide_eq_true (by omega)
      have hx : s.data.toList[(i : Int).toNat]? = some l[i] := by rw [hl]; simp [h]
      have hc := hdg l[i] (List.getElem_mem _)
      have hv3 := val_lt hdg (i + 1) h
      have hv4 : val (l.take (i + 1)) < 10000000000000000000 := Nat.lt_of_lt_of_le hv3 (Nat.pow_le_pow_right (by omega) (by omega) : 10 ^ (i + 1) ≤ 10 ^ 19)
      have hvt := val_take h
      simp only [dig, Bool.and_eq_true, decide_eq_true_eq] at hc
      (repeat first | refine zSeq ?_ | refine zReg ?_ | refine zBlk ?_ | refine zSkp ?_ | refine zExt ?_ | refine zNil rfl ?_ | refine zGet rfl ?_ | refine zOn rfl rfl ?_ | refine zOff rfl rfl ?_ | refine zU rfl ?_ | refine zOn rfl (by assumption) ?_ | refine zOff rfl (by assumption) ?_ | refine zMov rfl ?_ | refine zAsg rfl ?_ | refine zXtr rfl ?_ | refine zPT rfl rfl rfl ?_ | refine zPF rfl rfl rfl ?_ | refine zPT rfl (by assumption) rfl ?_ | refine zPF rfl (by assumption) rfl ?_ | refine zLss rfl rfl ?_ | refine zLeq rfl rfl ?_ | refine zGtr rfl rfl ?_ | refine zGeq rfl rfl ?_ | refine zEql rfl rfl ?_ | refine zNeq rfl rfl ?_ | refine zAdd rfl rfl (by omega) ?_ | refine zSub rfl rfl (by omega) ?_ | refine zLenS rfl E_string ?_ | refine zNot rfl ?_ | refine zEqS rfl rfl ?_ | refine zNeS rfl rfl ?_ | refine zT rfl rfl ?_ | refine zF rfl rfl ?_ | refine zT rfl (by assumption) ?_ | refine zF rfl (by assumption) ?_ | refine zLen rfl (hv.len E_s_string) ?_)
      refine WL.op (op_int rfl rfl (aInt_mulW _ _ (c := (val (l.take i) : Int) * 10 % 18446744073709551616) (by rw [IntKind.wrap_u64]))) ?_
      (repeat first | refine zSeq ?_ | refine zReg ?_ | refine zBlk ?_ | refine zSkp ?_ | refine zExt ?_ | refine zNil rfl ?_ | refine zGet rfl ?_ | refine zOn rfl rfl ?_ | refine zOff rfl rfl ?_ | refine zU rfl ?_ | refine zOn rfl (by assumption) ?_ | refine zOff rfl (by assumption) ?_ | refine zMov rfl ?_ | refine zAsg rfl ?_ | refine zXtr rfl ?_ | refine zPT rfl rfl rfl ?_ | refine zPF rfl rfl rfl ?_ | refine zPT rfl (by assumption) rfl ?_ | refine zPF rfl (by assumption) rfl ?_ | refine zLss rfl rfl ?_ | refine zLeq rfl rfl ?_ | refine zGtr rfl rfl ?_ | refine zGeq rfl rfl ?_ | refine zEql rfl rfl ?_ | refine zNeq rfl rfl ?_ | refine zAdd rfl rfl (by omega) ?_ | refine zSub rfl rfl (by omega) ?_ | refine zLenS rfl E_string ?_ | refine zNot rfl ?_ | refine zEqS rfl rfl ?_ | refine zNeS rfl rfl ?_ | refine zT rfl rfl ?_ | refine zF rfl rfl ?_ | refine zT rfl (by assumption) ?_ | refine zF rfl (by assumption) ?_ | refine zLen rfl (hv.len E_s_string) ?_)
      refine WL.op (op_indexS rfl rfl E_string (by omega) hx) ?_
      refine WL.op (op_int rfl rfl (aInt_subW _ _ (c := (l[i].toNat : Int) - 48) (by rw [IntKind.wrap_u8]; omega))) ?_
      refine WL.op (op_conv u5 u52 rfl (m := (l[i].toNat : Int) - 48) (by rw [IntKind.wrap_u64]; omega)) ?_
      refine WL.op (op_int rfl rfl (aInt_addW _ _ (c := (val (l.take (i + 1)) : Nat)) (by rw [IntKind.wrap_u64, hvt]; omega))) ?_
      (repeat first | refine zSeq ?_ | refine zReg ?_ | refine zBlk ?_ | refine zSkp ?_ | refine zExt ?_ | refine zNil rfl ?_ | refine zGet rfl ?_ | refine zOn rfl rfl ?_ | refine zOff rfl rfl ?_ | refine zU rfl ?_ | refine zOn rfl (by assumption) ?_ | refine zOff rfl (by assumption) ?_ | refine zMov rfl ?_ | refine zAsg rfl ?_ | refine zXtr rfl ?_ | refine zPT rfl rfl rfl ?_ | refine zPF rfl rfl rfl ?_ | refine zPT rfl (by assumption) rfl ?_ | refine zPF rfl (by assumption) rfl ?_ | refine zLss rfl rfl ?_ | refine zLeq rfl rfl ?_ | refine zGtr rfl rfl ?_ | refine zGeq rfl rfl ?_ | refine zEql rfl rfl ?_ | refine zNeq rfl rfl ?_ | refine zAdd rfl rfl (by omega) ?_ | refine zSub rfl rfl (by omega) ?_ | refine zLenS rfl E_string ?_ | refine zNot rfl ?_ | refine zEqS rfl rfl ?_ | refine zNeS rfl rfl ?_ | refine zT rfl rfl ?_ | refine zF rfl rfl ?_ | refine zT rfl (by assumption) ?_ | refine zF rfl (by assumption) ?_ | refine zLen rfl (hv.len E_s_string) ?_)
      exact ⟨i + 1, ⟨rfl, by omega⟩, by omega, rfl, rfl, rfl, trivial⟩
    · have g1 : decide ((i : Int) < s.size) = false := decide_eq_false (by omega)
      (repeat first | refine zSeq ?_ | refine zReg ?_ | refine zBlk ?_ | refine zSkp ?_ | refine zExt ?_ | refine zNil rfl ?_ | refine zGet rfl ?_ | refine zOn rfl rfl ?_ | refine zOff rfl rfl ?_ | refine zU rfl ?_ | refine zOn rfl (by assumption) ?_ | refine zOff rfl (by assumption) ?_ | refine zMov rfl ?_ | refine zAsg rfl ?_ | refine zXtr rfl ?_ | refine zPT rfl rfl rfl ?_ | refine zPF rfl rfl rfl ?_ | refine zPT rfl (by assumption) rfl ?_ | refine zPF rfl (by assumption) rfl ?_ | refine zLss rfl rfl ?_ | refine zLeq rfl rfl ?_ | refine zGtr rfl rfl ?_ | refine zGeq rfl rfl ?_ | refine zEql rfl rfl ?_ | refine zNeq rfl rfl ?_ | refine zAdd rfl rfl (by omega) ?_ | refine zSub rfl rfl (by omega) ?_ | refine zLenS rfl E_string ?_ | refine zNot rfl ?_ | refine zEqS rfl rfl ?_ | refine zNeS rfl rfl ?_ | refine zT rfl rfl ?_ | refine zF rfl rfl ?_ | refine zT rfl (by assumption) ?_ | refine zF rfl (by assumption) ?_ | refine zLen rfl (hv.len E_s_string) ?_)
      refine WP.ret ⟨.inr rfl, _, rfl, fin _ ?_⟩
      rw [rnumB, hl, hz, decide_eq_true (by omega : s.size ≤ 19), Bool.not_false, Bool.true_and, Bool.true_and, List.take_of_length_le h, decide_eq_decide]
      omega
end Go.Proofs.YtdkfcpadbahohaaDoor.U

