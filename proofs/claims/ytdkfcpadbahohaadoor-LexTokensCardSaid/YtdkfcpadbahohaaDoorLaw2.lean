/-
  The seat's functions, prepared.
-/
import Derived.Test.YtdkfcpadbahohaaDoorLaw1
import Derived.Test.YtdkfcpadbahohaaDoorProg
import Derived.KernelRfl
set_option linter.unusedVariables false
set_option linter.unusedSimpArgs false
namespace Go.Proofs.YtdkfcpadbahohaaDoor.U
open Go Go.Ev


abbrev T_ : TypeId := 0
abbrev T_func : TypeId := 1
abbrev T_int64 : TypeId := 2
theorem E_int64 : V.E 2 = some ⟨.int .i64, 1, 8, (.int .i64 0)⟩ := by kernel_rfl
abbrev T_int : TypeId := 3
theorem E_int : V.E 3 = some ⟨.int .i64, 1, 8, (.int .i64 0)⟩ := by kernel_rfl
abbrev T_bool : TypeId := 4
theorem E_bool : V.E 4 = some ⟨.bool, 1, 1, (.bool false)⟩ := by kernel_rfl
abbrev T_uint8 : TypeId := 5
theorem E_uint8 : V.E 5 = some ⟨.int .u8, 1, 1, (.int .u8 0)⟩ := by kernel_rfl
abbrev T_abi_BoundsErrorCode : TypeId := 6
theorem E_abi_BoundsErrorCode : V.E 6 = some ⟨.int .u8, 1, 1, (.int .u8 0)⟩ := by kernel_rfl
abbrev T_struct7 : TypeId := 7
noncomputable def te_struct7 : TI := match V.E 7 with
  | some t => t
  | none => ⟨.bool, 0, 0, .nilFunc⟩
theorem E_struct7 : V.E 7 = some te_struct7 := by kernel_rfl
theorem te_struct7_size : te_struct7.size = 4 := by kernel_rfl
theorem te_struct7_bytes : te_struct7.bytes = 24 := by kernel_rfl
theorem te_struct7_agg : Desc.agg te_struct7.desc = true := by kernel_rfl
theorem te_struct7_zero : te_struct7.zv = (.agg #[(.int .i64 0), (.int .i64 0), (.bool false), (.int .u8 0)]) := by kernel_rfl
theorem O_struct7_x {b o : Nat} : aField V.E 7 0 (.pointer (some ⟨b, o, none⟩)) = some (.pointer (some ⟨b, o + 0, none⟩)) := by kernel_rfl
theorem O_struct7_y {b o : Nat} : aField V.E 7 1 (.pointer (some ⟨b, o, none⟩)) = some (.pointer (some ⟨b, o + 1, none⟩)) := by kernel_rfl
theorem O_struct7_signed {b o : Nat} : aField V.E 7 2 (.pointer (some ⟨b, o, none⟩)) = some (.pointer (some ⟨b, o + 2, none⟩)) := by kernel_rfl
theorem O_struct7_code {b o : Nat} : aField V.E 7 3 (.pointer (some ⟨b, o, none⟩)) = some (.pointer (some ⟨b, o + 3, none⟩)) := by kernel_rfl
abbrev T_runtime_boundsError : TypeId := 8
noncomputable def te_runtime_boundsError : TI := match V.E 8 with
  | some t => t
  | none => ⟨.bool, 0, 0, .nilFunc⟩
theorem E_runtime_boundsError : V.E 8 = some te_runtime_boundsError := by kernel_rfl
theorem te_runtime_boundsError_size : te_runtime_boundsError.size = 4 := by kernel_rfl
theorem te_runtime_boundsError_bytes : te_runtime_boundsError.bytes = 24 := by kernel_rfl
theorem te_runtime_boundsError_agg : Desc.agg te_runtime_boundsError.desc = true := by kernel_rfl
theorem te_runtime_boundsError_zero : te_runtime_boundsError.zv = (.agg #[(.int .i64 0), (.int .i64 0), (.bool false), (.int .u8 0)]) := by kernel_rfl
theorem O_runtime_boundsError_x {b o : Nat} : aField V.E 8 0 (.pointer (some ⟨b, o, none⟩)) = some (.pointer (some ⟨b, o + 0, none⟩)) := by kernel_rfl
theorem O_runtime_boundsError_y {b o : Nat} : aField V.E 8 1 (.pointer (some ⟨b, o, none⟩)) = some (.pointer (some ⟨b, o + 1, none⟩)) := by kernel_rfl
theorem O_runtime_boundsError_signed {b o : Nat} : aField V.E 8 2 (.pointer (some ⟨b, o, none⟩)) = some (.pointer (some ⟨b, o + 2, none⟩)) := by kernel_rfl
theorem O_runtime_boundsError_code {b o : Nat} : aField V.E 8 3 (.pointer (some ⟨b, o, none⟩)) = some (.pointer (some ⟨b, o + 3, none⟩)) := by kernel_rfl
abbrev T_string : TypeId := 9
theorem E_string : V.E 9 = some ⟨.string, 1, 16, (.string ⟨⟨[]⟩⟩)⟩ := by kernel_rfl
abbrev T_runtime_errorString : TypeId := 10
theorem E_runtime_errorString : V.E 10 = some ⟨.string, 1, 16, (.string ⟨⟨[]⟩⟩)⟩ := by kernel_rfl
abbrev T_runtime_plainError : TypeId := 11
theorem E_runtime_plainError : V.E 11 = some ⟨.string, 1, 16, (.string ⟨⟨[]⟩⟩)⟩ := by kernel_rfl
abbrev T_uintptr : TypeId := 12
theorem E_uintptr : V.E 12 = some ⟨.int .u64, 1, 8, (.int .u64 0)⟩ := by kernel_rfl
abbrev T_struct13 : TypeId := 13
noncomputable def te_struct13 : TI := match V.E 13 with
  | some t => t
  | none => ⟨.bool, 0, 0, .nilFunc⟩
theorem E_struct13 : V.E 13 = some te_struct13 := by kernel_rfl
theorem te_struct13_size : te_struct13.size = 2 := by kernel_rfl
theorem te_struct13_bytes : te_struct13.bytes = 24 := by kernel_rfl
theorem te_struct13_agg : Desc.agg te_struct13.desc = true := by kernel_rfl
theorem te_struct13_zero : te_struct13.zv = (.agg #[(.string ⟨⟨[]⟩⟩), (.int .u64 0)]) := by kernel_rfl
theorem O_struct13_msg {b o : Nat} : aField V.E 13 0 (.pointer (some ⟨b, o, none⟩)) = some (.pointer (some ⟨b, o + 0, none⟩)) := by kernel_rfl
theorem O_struct13_addr {b o : Nat} : aField V.E 13 1 (.pointer (some ⟨b, o, none⟩)) = some (.pointer (some ⟨b, o + 1, none⟩)) := by kernel_rfl
abbrev T_runtime_errorAddressString : TypeId := 14
noncomputable def te_runtime_errorAddressString : TI := match V.E 14 with
  | some t => t
  | none => ⟨.bool, 0, 0, .nilFunc⟩
theorem E_runtime_errorAddressString : V.E 14 = some te_runtime_errorAddressString := by kernel_rfl
theorem te_runtime_errorAddressString_size : te_runtime_errorAddressString.size = 2 := by kernel_rfl
theorem te_runtime_errorAddressString_bytes : te_runtime_errorAddressString.bytes = 24 := by kernel_rfl
theorem te_runtime_errorAddressString_agg : Desc.agg te_runtime_errorAddressString.desc = true := by kernel_rfl
theorem te_runtime_errorAddressString_zero : te_runtime_errorAddressString.zv = (.agg #[(.string ⟨⟨[]⟩⟩), (.int .u64 0)]) := by kernel_rfl
theorem O_runtime_errorAddressString_msg {b o : Nat} : aField V.E 14 0 (.pointer (some ⟨b, o, none⟩)) = some (.pointer (some ⟨b, o + 0, none⟩)) := by kernel_rfl
theorem O_runtime_errorAddressString_addr {b o : Nat} : aField V.E 14 1 (.pointer (some ⟨b, o, none⟩)) = some (.pointer (some ⟨b, o + 1, none⟩)) := by kernel_rfl
abbrev T_p_runtime_TypeAssertionError : TypeId := 15
theorem E_p_runtime_TypeAssertionError : V.E 15 = some ⟨.pointer 55, 1, 8, (.pointer none)⟩ := by kernel_rfl
abbrev T_p_runtime_PanicNilError : TypeId := 16
theorem E_p_runtime_PanicNilError : V.E 16 = some ⟨.pointer 58, 1, 8, (.pointer none)⟩ := by kernel_rfl
abbrev T_p_abi_Type : TypeId := 17
theorem E_p_abi_Type : V.E 17 = some ⟨.pointer 68, 1, 8, (.pointer none)⟩ := by kernel_rfl
abbrev T_struct18 : TypeId := 18
noncomputable def te_struct18 : TI := match V.E 18 with
  | some t => t
  | none => ⟨.bool, 0, 0, .nilFunc⟩
theorem E_struct18 : V.E 18 = some te_struct18 := by kernel_rfl
theorem te_struct18_size : te_struct18.size = 1 := by kernel_rfl
theorem te_struct18_bytes : te_struct18.bytes = 8 := by kernel_rfl
theorem te_struct18_agg : Desc.agg te_struct18.desc = true := by kernel_rfl
theorem te_struct18_zero : te_struct18.zv = (.agg #[(.pointer none)]) := by kernel_rfl
theorem O_struct18_typ {b o : Nat} : aField V.E 18 0 (.pointer (some ⟨b, o, none⟩)) = some (.pointer (some ⟨b, o + 0, none⟩)) := by kernel_rfl
abbrev T_maps_unhashableTypeError : TypeId := 19
noncomputable def te_maps_unhashableTypeError : TI := match V.E 19 with
  | some t => t
  | none => ⟨.bool, 0, 0, .nilFunc⟩
theorem E_maps_unhashableTypeError : V.E 19 = some te_maps_unhashableTypeError := by kernel_rfl
theorem te_maps_unhashableTypeError_size : te_maps_unhashableTypeError.size = 1 := by kernel_rfl
theorem te_maps_unhashableTypeError_bytes : te_maps_unhashableTypeError.bytes = 8 := by kernel_rfl
theorem te_maps_unhashableTypeError_agg : Desc.agg te_maps_unhashableTypeError.desc = true := by kernel_rfl
theorem te_maps_unhashableTypeError_zero : te_maps_unhashableTypeError.zv = (.agg #[(.pointer none)]) := by kernel_rfl
theorem O_maps_unhashableTypeError_typ {b o : Nat} : aField V.E 19 0 (.pointer (some ⟨b, o, none⟩)) = some (.pointer (some ⟨b, o + 0, none⟩)) := by kernel_rfl
abbrev T_interface : TypeId := 20
abbrev T_int32 : TypeId := 21
theorem E_int32 : V.E 21 = some ⟨.int .i32, 1, 4, (.int .i32 0)⟩ := by kernel_rfl
abbrev T_func_bool : TypeId := 22
abbrev T_func_string_string_string_bool : TypeId := 23
abbrev T_func_int_uint8_string : TypeId := 24
abbrev T_struct25 : TypeId := 25
noncomputable def te_struct25 : TI := match V.E 25 with
  | some t => t
  | none => ⟨.bool, 0, 0, .nilFunc⟩
theorem E_struct25 : V.E 25 = some te_struct25 := by kernel_rfl
theorem te_struct25_size : te_struct25.size = 2 := by kernel_rfl
theorem te_struct25_bytes : te_struct25.bytes = 24 := by kernel_rfl
theorem te_struct25_agg : Desc.agg te_struct25.desc = true := by kernel_rfl
theorem te_struct25_zero : te_struct25.zv = (.agg #[(.string ⟨⟨[]⟩⟩), (.int .i64 0)]) := by kernel_rfl
theorem O_struct25_s {b o : Nat} : aField V.E 25 0 (.pointer (some ⟨b, o, none⟩)) = some (.pointer (some ⟨b, o + 0, none⟩)) := by kernel_rfl
theorem O_struct25_at {b o : Nat} : aField V.E 25 1 (.pointer (some ⟨b, o, none⟩)) = some (.pointer (some ⟨b, o + 1, none⟩)) := by kernel_rfl
abbrev T_s_struct_s_string_at_int : TypeId := 26
theorem E_s_struct_s_string_at_int : V.E 26 = some ⟨.slice 25, 1, 24, (.slice none 0 0)⟩ := by kernel_rfl
abbrev T_func_string_int_bool : TypeId := 27
abbrev T_s_string : TypeId := 28
theorem E_s_string : V.E 28 = some ⟨.slice 9, 1, 24, (.slice none 0 0)⟩ := by kernel_rfl
abbrev T_func_string_bool : TypeId := 29
abbrev T_s_api_Token : TypeId := 30
theorem E_s_api_Token : V.E 30 = some ⟨.slice 36, 1, 24, (.slice none 0 0)⟩ := by kernel_rfl
abbrev T_api_Errno : TypeId := 31
theorem E_api_Errno : V.E 31 = some ⟨.int .i64, 1, 8, (.int .i64 0)⟩ := by kernel_rfl
abbrev T_s_api_Token_int_api_Errno : TypeId := 32
abbrev T_func_string_s_api_Token_int_api_Errno : TypeId := 33
abbrev T_func_s_api_Token_s_api_Token_bool : TypeId := 34
abbrev T_struct35 : TypeId := 35
noncomputable def te_struct35 : TI := match V.E 35 with
  | some t => t
  | none => ⟨.bool, 0, 0, .nilFunc⟩
theorem E_struct35 : V.E 35 = some te_struct35 := by kernel_rfl
theorem te_struct35_size : te_struct35.size = 3 := by kernel_rfl
theorem te_struct35_bytes : te_struct35.bytes = 32 := by kernel_rfl
theorem te_struct35_agg : Desc.agg te_struct35.desc = true := by kernel_rfl
theorem te_struct35_zero : te_struct35.zv = (.agg #[(.int .u8 0), (.string ⟨⟨[]⟩⟩), (.int .i64 0)]) := by kernel_rfl
theorem O_struct35_Kind {b o : Nat} : aField V.E 35 0 (.pointer (some ⟨b, o, none⟩)) = some (.pointer (some ⟨b, o + 0, none⟩)) := by kernel_rfl
theorem O_struct35_Text {b o : Nat} : aField V.E 35 1 (.pointer (some ⟨b, o, none⟩)) = some (.pointer (some ⟨b, o + 1, none⟩)) := by kernel_rfl
theorem O_struct35_At {b o : Nat} : aField V.E 35 2 (.pointer (some ⟨b, o, none⟩)) = some (.pointer (some ⟨b, o + 2, none⟩)) := by kernel_rfl
abbrev T_api_Token : TypeId := 36
noncomputable def te_api_Token : TI := match V.E 36 with
  | some t => t
  | none => ⟨.bool, 0, 0, .nilFunc⟩
theorem E_api_Token : V.E 36 = some te_api_Token := by kernel_rfl
theorem te_api_Token_size : te_api_Token.size = 3 := by kernel_rfl
theorem te_api_Token_bytes : te_api_Token.bytes = 32 := by kernel_rfl
theorem te_api_Token_agg : Desc.agg te_api_Token.desc = true := by kernel_rfl
theorem te_api_Token_zero : te_api_Token.zv = (.agg #[(.int .u8 0), (.string ⟨⟨[]⟩⟩), (.int .i64 0)]) := by kernel_rfl
theorem O_api_Token_Kind {b o : Nat} : aField V.E 36 0 (.pointer (some ⟨b, o, none⟩)) = some (.pointer (some ⟨b, o + 0, none⟩)) := by kernel_rfl
theorem O_api_Token_Text {b o : Nat} : aField V.E 36 1 (.pointer (some ⟨b, o, none⟩)) = some (.pointer (some ⟨b, o + 1, none⟩)) := by kernel_rfl
theorem O_api_Token_At {b o : Nat} : aField V.E 36 2 (.pointer (some ⟨b, o, none⟩)) = some (.pointer (some ⟨b, o + 2, none⟩)) := by kernel_rfl
abbrev T_func_string_string_bool : TypeId := 37
abbrev T_uint : TypeId := 38
theorem E_uint : V.E 38 = some ⟨.int .u64, 1, 8, (.int .u64 0)⟩ := by kernel_rfl
abbrev T_func_string_int_string_bool : TypeId := 39
abbrev T_s_uint8 : TypeId := 40
theorem E_s_uint8 : V.E 40 = some ⟨.slice 5, 1, 24, (.slice none 0 0)⟩ := by kernel_rfl
abbrev T_func_string_uint8_bool : TypeId := 41
abbrev T_func_s_string_string_bool : TypeId := 42
abbrev T_func_string_int : TypeId := 43
abbrev T_uint8_int_bool : TypeId := 44
abbrev T_func_string_uint8_int_bool : TypeId := 45
abbrev T_func_uint8_bool : TypeId := 46
abbrev T_func_string_s_string_bool : TypeId := 47
abbrev T_func_s_string_string_int : TypeId := 48
abbrev T_func_string_func_uint8_bool_int : TypeId := 49
abbrev T_func_s_string_func_string_bool_int : TypeId := 50
abbrev T_23_string : TypeId := 51
theorem E_23_string : V.E 51 = some ⟨.array 23 9, 23, 368, (.agg #[(.string ⟨⟨[]⟩⟩), (.string ⟨⟨[]⟩⟩), (.string ⟨⟨[]⟩⟩), (.string ⟨⟨[]⟩⟩), (.string ⟨⟨[]⟩⟩), (.string ⟨⟨[]⟩⟩), (.string ⟨⟨[]⟩⟩), (.string ⟨⟨[]⟩⟩), (.string ⟨⟨[]⟩⟩), (.string ⟨⟨[]⟩⟩), (.string ⟨⟨[]⟩⟩), (.string ⟨⟨[]⟩⟩), (.string ⟨⟨[]⟩⟩), (.string ⟨⟨[]⟩⟩), (.string ⟨⟨[]⟩⟩), (.string ⟨⟨[]⟩⟩), (.string ⟨⟨[]⟩⟩), (.string ⟨⟨[]⟩⟩), (.string ⟨⟨[]⟩⟩), (.string ⟨⟨[]⟩⟩), (.string ⟨⟨[]⟩⟩), (.string ⟨⟨[]⟩⟩), (.string ⟨⟨[]⟩⟩)])⟩ := by kernel_rfl
abbrev T_uint64 : TypeId := 52
theorem E_uint64 : V.E 52 = some ⟨.int .u64, 1, 8, (.int .u64 0)⟩ := by kernel_rfl
abbrev T_func_string : TypeId := 53
abbrev T_struct54 : TypeId := 54
noncomputable def te_struct54 : TI := match V.E 54 with
  | some t => t
  | none => ⟨.bool, 0, 0, .nilFunc⟩
theorem E_struct54 : V.E 54 = some te_struct54 := by kernel_rfl
theorem te_struct54_size : te_struct54.size = 4 := by kernel_rfl
theorem te_struct54_bytes : te_struct54.bytes = 40 := by kernel_rfl
theorem te_struct54_agg : Desc.agg te_struct54.desc = true := by kernel_rfl
theorem te_struct54_zero : te_struct54.zv = (.agg #[(.pointer none), (.pointer none), (.pointer none), (.string ⟨⟨[]⟩⟩)]) := by kernel_rfl
theorem O_struct54__interface {b o : Nat} : aField V.E 54 0 (.pointer (some ⟨b, o, none⟩)) = some (.pointer (some ⟨b, o + 0, none⟩)) := by kernel_rfl
theorem O_struct54_concrete {b o : Nat} : aField V.E 54 1 (.pointer (some ⟨b, o, none⟩)) = some (.pointer (some ⟨b, o + 1, none⟩)) := by kernel_rfl
theorem O_struct54_asserted {b o : Nat} : aField V.E 54 2 (.pointer (some ⟨b, o, none⟩)) = some (.pointer (some ⟨b, o + 2, none⟩)) := by kernel_rfl
theorem O_struct54_missingMethod {b o : Nat} : aField V.E 54 3 (.pointer (some ⟨b, o, none⟩)) = some (.pointer (some ⟨b, o + 3, none⟩)) := by kernel_rfl
abbrev T_runtime_TypeAssertionError : TypeId := 55
noncomputable def te_runtime_TypeAssertionError : TI := match V.E 55 with
  | some t => t
  | none => ⟨.bool, 0, 0, .nilFunc⟩
theorem E_runtime_TypeAssertionError : V.E 55 = some te_runtime_TypeAssertionError := by kernel_rfl
theorem te_runtime_TypeAssertionError_size : te_runtime_TypeAssertionError.size = 4 := by kernel_rfl
theorem te_runtime_TypeAssertionError_bytes : te_runtime_TypeAssertionError.bytes = 40 := by kernel_rfl
theorem te_runtime_TypeAssertionError_agg : Desc.agg te_runtime_TypeAssertionError.desc = true := by kernel_rfl
theorem te_runtime_TypeAssertionError_zero : te_runtime_TypeAssertionError.zv = (.agg #[(.pointer none), (.pointer none), (.pointer none), (.string ⟨⟨[]⟩⟩)]) := by kernel_rfl
theorem O_runtime_TypeAssertionError__interface {b o : Nat} : aField V.E 55 0 (.pointer (some ⟨b, o, none⟩)) = some (.pointer (some ⟨b, o + 0, none⟩)) := by kernel_rfl
theorem O_runtime_TypeAssertionError_concrete {b o : Nat} : aField V.E 55 1 (.pointer (some ⟨b, o, none⟩)) = some (.pointer (some ⟨b, o + 1, none⟩)) := by kernel_rfl
theorem O_runtime_TypeAssertionError_asserted {b o : Nat} : aField V.E 55 2 (.pointer (some ⟨b, o, none⟩)) = some (.pointer (some ⟨b, o + 2, none⟩)) := by kernel_rfl
theorem O_runtime_TypeAssertionError_missingMethod {b o : Nat} : aField V.E 55 3 (.pointer (some ⟨b, o, none⟩)) = some (.pointer (some ⟨b, o + 3, none⟩)) := by kernel_rfl
abbrev T_0_p_runtime_PanicNilError : TypeId := 56
theorem E_0_p_runtime_PanicNilError : V.E 56 = some ⟨.array 0 16, 0, 0, (.agg #[])⟩ := by kernel_rfl
abbrev T_struct57 : TypeId := 57
noncomputable def te_struct57 : TI := match V.E 57 with
  | some t => t
  | none => ⟨.bool, 0, 0, .nilFunc⟩
theorem E_struct57 : V.E 57 = some te_struct57 := by kernel_rfl
theorem te_struct57_size : te_struct57.size = 0 := by kernel_rfl
theorem te_struct57_bytes : te_struct57.bytes = 0 := by kernel_rfl
theorem te_struct57_agg : Desc.agg te_struct57.desc = true := by kernel_rfl
theorem te_struct57_zero : te_struct57.zv = (.agg #[]) := by kernel_rfl
abbrev T_runtime_PanicNilError : TypeId := 58
abbrev T_func_int : TypeId := 59
abbrev T_uint32 : TypeId := 60
theorem E_uint32 : V.E 60 = some ⟨.int .u32, 1, 4, (.int .u32 0)⟩ := by kernel_rfl
abbrev T_abi_TFlag : TypeId := 61
theorem E_abi_TFlag : V.E 61 = some ⟨.int .u8, 1, 1, (.int .u8 0)⟩ := by kernel_rfl
abbrev T_abi_Kind : TypeId := 62
theorem E_abi_Kind : V.E 62 = some ⟨.int .u8, 1, 1, (.int .u8 0)⟩ := by kernel_rfl
abbrev T_func_unsafe_Pointer_unsafe_Pointer_bool : TypeId := 63
abbrev T_p_uint8 : TypeId := 64
theorem E_p_uint8 : V.E 64 = some ⟨.pointer 5, 1, 8, (.pointer none)⟩ := by kernel_rfl
abbrev T_abi_NameOff : TypeId := 65
theorem E_abi_NameOff : V.E 65 = some ⟨.int .i32, 1, 4, (.int .i32 0)⟩ := by kernel_rfl
abbrev T_abi_TypeOff : TypeId := 66
theorem E_abi_TypeOff : V.E 66 = some ⟨.int .i32, 1, 4, (.int .i32 0)⟩ := by kernel_rfl
abbrev T_struct67 : TypeId := 67
abbrev T_abi_Type : TypeId := 68
abbrev T_unsafe_Pointer : TypeId := 69

/- bobbin/bobbinlaw01.LexNames -/
abbrev F_law01_LexNames : FuncId := 3
def P_law01_LexNames : PC :=
.seq (
.reg [.run (.assign (.const (.bool false))) none] [(0, 0)]) (
.seq (
.seq (
.reg [.run (.call ⟨.value (.func 8), #[], #[]⟩) none,
  .run (.unOp .not 4 (.tmp 0)) none,
  .run (.pick (.tmp 0) (.const (.bool true)) (.const (.bool false))) none,
  .run (.pick (.tmp 0) (.const (.bool true)) (.const (.bool false))) none,
  .run (.pick (.tmp 0) (.const (.bool true)) (.const (.bool false))) none,
  .run (.pick (.tmp 0) (.const (.bool true)) (.const (.bool false))) none,
  .run (.pick (.tmp 0) (.const (.bool true)) (.const (.bool false))) none,
  .run (.pick (.tmp 0) (.const (.bool true)) (.const (.bool false))) none,
  .run (.pick (.tmp 0) (.const (.bool true)) (.const (.bool false))) none] [(26, 0)]) (
.cond (.tmp 26) (
  .seq (
  .reg [.run (.assign (.const (.bool false))) none] [(0, 0)]) (
  .ret)) (
  .skip))) (
.seq (
.seq (
.reg [.run (.call ⟨.value (.func 9), #[(.const (.string ⟨⟨[]⟩⟩)), (.const (.string ⟨⟨[]⟩⟩)), (.const (.slice none 0 0))], #[9, 9, 28]⟩) none,
  .run (.unOp .not 4 (.tmp 0)) none,
  .run (.call ⟨.value (.func 9), #[(.const (.string ⟨⟨[32, 9, 10, 35, 32, 97, 108, 108, 32, 36, 10, 35]⟩⟩)), (.const (.string ⟨⟨[]⟩⟩)), (.const (.slice none 0 0))], #[9, 9, 28]⟩) (some ((.tmp 0), false)),
  .run (.unOp .not 4 (.tmp 0)) (some ((.tmp 1), false)),
  .run (.pick (.tmp 2) (.const (.bool true)) (.tmp 0)) none,
  .run (.buildSlice 28 23 #[(0, (.const (.string ⟨⟨[124, 124]⟩⟩))), (1, (.const (.string ⟨⟨[38, 38]⟩⟩))), (2, (.const (.string ⟨⟨[60, 61]⟩⟩))), (3, (.const (.string ⟨⟨[62, 61]⟩⟩))), (4, (.const (.string ⟨⟨[61, 61]⟩⟩))), (5, (.const (.string ⟨⟨[33, 61]⟩⟩))), (6, (.const (.string ⟨⟨[60]⟩⟩))), (7, (.const (.string ⟨⟨[62]⟩⟩))), (8, (.const (.string ⟨⟨[61]⟩⟩))), (9, (.const (.string ⟨⟨[43]⟩⟩))), (10, (.const (.string ⟨⟨[45]⟩⟩))), (11, (.const (.string ⟨⟨[42]⟩⟩))), (12, (.const (.string ⟨⟨[47]⟩⟩))), (13, (.const (.string ⟨⟨[37]⟩⟩))), (14, (.const (.string ⟨⟨[33]⟩⟩))), (15, (.const (.string ⟨⟨[40]⟩⟩))), (16, (.const (.string ⟨⟨[41]⟩⟩))), (17, (.const (.string ⟨⟨[123]⟩⟩))), (18, (.const (.string ⟨⟨[125]⟩⟩))), (19, (.const (.string ⟨⟨[91]⟩⟩))), (20, (.const (.string ⟨⟨[93]⟩⟩))), (21, (.const (.string ⟨⟨[59]⟩⟩))), (22, (.const (.string ⟨⟨[44]⟩⟩)))]) (some ((.tmp 0), false)),
  .run (.call ⟨.value (.func 9), #[(.const (.string ⟨⟨[124, 124, 32, 38, 38, 32, 60, 61, 32, 62, 61, 32, 61, 61, 32, 33, 61, 32, 60, 32, 62, 32, 61, 32, 43, 32, 45, 32, 42, 32, 47, 32, 37, 32, 33, 32, 40, 32, 41, 32, 123, 32, 125, 32, 91, 32, 93, 32, 59, 32, 44]⟩⟩)), (.const (.string ⟨⟨[115, 115, 115, 115, 115, 115, 115, 115, 115, 115, 115, 115, 115, 115, 115, 115, 115, 115, 115, 115, 115, 115, 115]⟩⟩)), (.tmp 0)], #[9, 9, 28]⟩) (some ((.tmp 1), false)),
  .run (.unOp .not 4 (.tmp 0)) (some ((.tmp 2), false)),
  .run (.pick (.tmp 3) (.const (.bool true)) (.tmp 0)) none,
  .run (.buildSlice 28 5 #[(0, (.const (.string ⟨⟨[61, 61]⟩⟩))), (1, (.const (.string ⟨⟨[61]⟩⟩))), (2, (.const (.string ⟨⟨[33, 61]⟩⟩))), (3, (.const (.string ⟨⟨[33]⟩⟩))), (4, (.const (.string ⟨⟨[60, 61]⟩⟩)))]) (some ((.tmp 0), false)),
  .run (.call ⟨.value (.func 9), #[(.const (.string ⟨⟨[61, 61, 61, 33, 61, 33, 60, 61, 60]⟩⟩)), (.const (.string ⟨⟨[115, 115, 115, 115, 115]⟩⟩)), (.tmp 0)], #[9, 9, 28]⟩) (some ((.tmp 1), false)),
  .run (.unOp .not 4 (.tmp 0)) (some ((.tmp 2), false)),
  .run (.move (.tmp 0)) (some ((.tmp 3), false)),
  .run (.buildSlice 28 6 #[(0, (.const (.string ⟨⟨[61, 61]⟩⟩))), (1, (.const (.string ⟨⟨[61]⟩⟩))), (2, (.const (.string ⟨⟨[33, 61]⟩⟩))), (3, (.const (.string ⟨⟨[33]⟩⟩))), (4, (.const (.string ⟨⟨[60, 61]⟩⟩))), (5, (.const (.string ⟨⟨[60]⟩⟩)))]) (some ((.tmp 0), true)),
  .run (.call ⟨.value (.func 9), #[(.const (.string ⟨⟨[61, 61, 61, 33, 61, 33, 60, 61, 60]⟩⟩)), (.const (.string ⟨⟨[115, 115, 115, 115, 115, 115]⟩⟩)), (.tmp 0)], #[9, 9, 28]⟩) (some ((.tmp 1), true)),
  .run (.unOp .not 4 (.tmp 0)) (some ((.tmp 2), true)),
  .run (.pick (.tmp 3) (.tmp 0) (.const (.bool false))) (some ((.tmp 7), false)),
  .run (.pick (.tmp 8) (.const (.bool true)) (.tmp 0)) none] [(47, 0)]) (
.cond (.tmp 47) (
  .seq (
  .reg [.run (.assign (.const (.bool false))) none] [(0, 0)]) (
  .ret)) (
  .skip))) (
.seq (
.seq (
.reg [.run (.buildSlice 28 3 #[(0, (.const (.string ⟨⟨[95]⟩⟩))), (1, (.const (.string ⟨⟨[95, 57]⟩⟩))), (2, (.const (.string ⟨⟨[65, 122, 48, 57, 95]⟩⟩)))]) none,
  .run (.call ⟨.value (.func 9), #[(.const (.string ⟨⟨[95, 32, 95, 57, 32, 65, 122, 48, 57, 95]⟩⟩)), (.const (.string ⟨⟨[110, 110, 110]⟩⟩)), (.tmp 0)], #[9, 9, 28]⟩) none,
  .run (.unOp .not 4 (.tmp 0)) none,
  .run (.buildSlice 28 3 #[(0, (.const (.string ⟨⟨[48]⟩⟩))), (1, (.const (.string ⟨⟨[49, 48]⟩⟩))), (2, (.const (.string ⟨⟨[57, 50, 50, 51, 51, 55, 50, 48, 51, 54, 56, 53, 52, 55, 55, 53, 56, 48, 56]⟩⟩)))]) (some ((.tmp 0), false)),
  .run (.call ⟨.value (.func 9), #[(.const (.string ⟨⟨[48, 32, 49, 48, 32, 57, 50, 50, 51, 51, 55, 50, 48, 51, 54, 56, 53, 52, 55, 55, 53, 56, 48, 56]⟩⟩)), (.const (.string ⟨⟨[100, 100, 100]⟩⟩)), (.tmp 0)], #[9, 9, 28]⟩) (some ((.tmp 1), false)),
  .run (.unOp .not 4 (.tmp 0)) (some ((.tmp 2), false)),
  .run (.pick (.tmp 3) (.const (.bool true)) (.tmp 0)) none,
  .run (.buildSlice 28 2 #[(0, (.const (.string ⟨⟨[97]⟩⟩))), (1, (.const (.string ⟨⟨[99]⟩⟩)))]) (some ((.tmp 0), false)),
  .run (.call ⟨.value (.func 9), #[(.const (.string ⟨⟨[97, 35, 98, 10, 99]⟩⟩)), (.const (.string ⟨⟨[110, 110]⟩⟩)), (.tmp 0)], #[9, 9, 28]⟩) (some ((.tmp 1), false)),
  .run (.unOp .not 4 (.tmp 0)) (some ((.tmp 2), false)),
  .run (.pick (.tmp 3) (.const (.bool true)) (.tmp 0)) none,
  .run (.buildSlice 28 2 #[(0, (.const (.string ⟨⟨[105, 102]⟩⟩))), (1, (.const (.string ⟨⟨[120]⟩⟩)))]) (some ((.tmp 0), false)),
  .run (.call ⟨.value (.func 9), #[(.const (.string ⟨⟨[105, 102, 32, 120]⟩⟩)), (.const (.string ⟨⟨[110, 110]⟩⟩)), (.tmp 0)], #[9, 9, 28]⟩) (some ((.tmp 1), false)),
  .run (.unOp .not 4 (.tmp 0)) (some ((.tmp 2), false)),
  .run (.pick (.tmp 3) (.const (.bool true)) (.tmp 0)) none,
  .run (.call ⟨.value (.func 10), #[(.const (.int .i64 32)), (.const (.int .u8 97))], #[3, 5]⟩) (some ((.tmp 0), false)),
  .run (.call ⟨.value (.func 10), #[(.const (.int .i64 32)), (.const (.int .u8 97))], #[3, 5]⟩) (some ((.tmp 1), false)),
  .run (.buildSlice 28 1 #[(0, (.tmp 0))]) (some ((.tmp 2), false)),
  .run (.call ⟨.value (.func 9), #[(.tmp 2), (.const (.string ⟨⟨[110]⟩⟩)), (.tmp 0)], #[9, 9, 28]⟩) (some ((.tmp 3), false)),
  .run (.unOp .not 4 (.tmp 0)) (some ((.tmp 4), false)),
  .run (.pick (.tmp 5) (.const (.bool true)) (.tmp 0)) none,
  .run (.buildSlice 28 3 #[(0, (.const (.string ⟨⟨[49]⟩⟩))), (1, (.const (.string ⟨⟨[43]⟩⟩))), (2, (.const (.string ⟨⟨[50]⟩⟩)))]) (some ((.tmp 0), false)),
  .run (.call ⟨.value (.func 9), #[(.const (.string ⟨⟨[49, 43, 50]⟩⟩)), (.const (.string ⟨⟨[100, 115, 100]⟩⟩)), (.tmp 0)], #[9, 9, 28]⟩) (some ((.tmp 1), false)),
  .run (.unOp .not 4 (.tmp 0)) (some ((.tmp 2), false)),
  .run (.pick (.tmp 3) (.const (.bool true)) (.tmp 0)) none,
  .run (.buildSlice 28 3 #[(0, (.const (.string ⟨⟨[40]⟩⟩))), (1, (.const (.string ⟨⟨[49]⟩⟩))), (2, (.const (.string ⟨⟨[41]⟩⟩)))]) (some ((.tmp 0), false)),
  .run (.call ⟨.value (.func 9), #[(.const (.string ⟨⟨[40, 49, 41]⟩⟩)), (.const (.string ⟨⟨[115, 100, 115]⟩⟩)), (.tmp 0)], #[9, 9, 28]⟩) (some ((.tmp 1), false)),
  .run (.unOp .not 4 (.tmp 0)) (some ((.tmp 2), false)),
  .run (.pick (.tmp 3) (.const (.bool true)) (.tmp 0)) none] [(82, 0)]) (
.cond (.tmp 82) (
  .seq (
  .reg [.run (.assign (.const (.bool false))) none] [(0, 0)]) (
  .ret)) (
  .skip))) (
.seq (
.seq (
.reg [.run (.build 25 #[(0, (.const (.string ⟨⟨[124]⟩⟩))), (1, (.const (.int .i64 0)))]) none,
  .run (.build 25 #[(0, (.const (.string ⟨⟨[97, 32, 124, 98]⟩⟩))), (1, (.const (.int .i64 2)))]) none,
  .run (.build 25 #[(0, (.const (.string ⟨⟨[48, 48]⟩⟩))), (1, (.const (.int .i64 0)))]) none,
  .run (.build 25 #[(0, (.const (.string ⟨⟨[120, 32, 48, 49]⟩⟩))), (1, (.const (.int .i64 2)))]) none,
  .run (.build 25 #[(0, (.const (.string ⟨⟨[57, 50, 50, 51, 51, 55, 50, 48, 51, 54, 56, 53, 52, 55, 55, 53, 56, 48, 57]⟩⟩))), (1, (.const (.int .i64 0)))]) none,
  .run (.build 25 #[(0, (.const (.string ⟨⟨[49, 48, 48, 48, 48, 48, 48, 48, 48, 48, 48, 48, 48, 48, 48, 48, 48, 48, 48, 48]⟩⟩))), (1, (.const (.int .i64 0)))]) none,
  .run (.build 25 #[(0, (.const (.string ⟨⟨[49, 95]⟩⟩))), (1, (.const (.int .i64 0)))]) none,
  .run (.build 25 #[(0, (.const (.string ⟨⟨[49, 32, 50, 97]⟩⟩))), (1, (.const (.int .i64 2)))]) none,
  .run (.call ⟨.value (.func 10), #[(.const (.int .i64 33)), (.const (.int .u8 97))], #[3, 5]⟩) none,
  .run (.build 25 #[(0, (.tmp 0)), (1, (.const (.int .i64 0)))]) none,
  .run (.build 25 #[(0, (.const (.string ⟨⟨[120, 0]⟩⟩))), (1, (.const (.int .i64 1)))]) none,
  .run (.build 25 #[(0, (.const (.string ⟨⟨[13]⟩⟩))), (1, (.const (.int .i64 0)))]) none,
  .run (.build 25 #[(0, (.const (.string ⟨⟨[255]⟩⟩))), (1, (.const (.int .i64 0)))]) none,
  .run (.build 25 #[(0, (.const (.string ⟨⟨[97, 46, 98]⟩⟩))), (1, (.const (.int .i64 1)))]) none,
  .run (.build 25 #[(0, (.const (.string ⟨⟨[39]⟩⟩))), (1, (.const (.int .i64 0)))]) none,
  .run (.build 25 #[(0, (.const (.string ⟨⟨[48, 120, 49]⟩⟩))), (1, (.const (.int .i64 0)))]) none,
  .run (.build 25 #[(0, (.const (.string ⟨⟨[120, 32, 64, 32, 36]⟩⟩))), (1, (.const (.int .i64 2)))]) none,
  .run (.buildSlice 26 16 #[(0, (.tmp 16)), (1, (.tmp 15)), (2, (.tmp 14)), (3, (.tmp 13)), (4, (.tmp 12)), (5, (.tmp 11)), (6, (.tmp 10)), (7, (.tmp 9)), (8, (.tmp 7)), (9, (.tmp 6)), (10, (.tmp 5)), (11, (.tmp 4)), (12, (.tmp 3)), (13, (.tmp 2)), (14, (.tmp 1)), (15, (.tmp 0))]) none,
  .run (.call ⟨.builtin .len, #[(.tmp 0)], #[26]⟩) none,
  .run (.move (.const (.int .i64 0))) none] [(102, 0), (101, 1), (100, 2)]) (
.block 0 (
 .loop (
  .seq (
  .reg [.run (.binOp .lss 3 (.tmp (far + 102)) (.tmp (far + 101)) 3) none] [(103, 0)]) (
  .seq (
  .cond (.tmp 103) (
    .skip) (
    .exit 0)) (
  .seq (
  .block 1 (
   .seq (
   .reg [.run (.indexAddr 26 (.tmp (far + 100)) (.tmp (far + 102))) none,
     .run (.load 25 (.tmp 0)) none,
     .run (.alloc 25) none,
     .run (.store 25 (.tmp 0) (.tmp 1)) none] [(2, 1)]) (
   .seq (
   .reg [.run (.fieldAddr 25 (.tmp (far + 2)) 0) none,
     .run (.load 9 (.tmp 0)) none,
     .run (.fieldAddr 25 (.tmp (far + 2)) 1) none,
     .run (.load 3 (.tmp 0)) none,
     .run (.call ⟨.value (.func 11), #[(.tmp 2), (.tmp 0)], #[9, 3]⟩) none,
     .run (.unOp .not 4 (.tmp 0)) none] [(111, 0)]) (
   .cond (.tmp 111) (
     .seq (
     .reg [.run (.assign (.const (.bool false))) none] [(0, 0)]) (
     .ret)) (
     .skip))))) (
  .reg [.run (.binOp .add 3 (.tmp (far + 102)) (.const (.int .i64 1)) 3) none] [(102, 0)]))))))) (
.seq (
.seq (
.reg [.run (.buildSlice 28 15 #[(0, (.const (.string ⟨⟨[103, 108, 111, 98, 97, 108]⟩⟩))), (1, (.const (.string ⟨⟨[97, 114, 114, 97, 121]⟩⟩))), (2, (.const (.string ⟨⟨[108, 111, 99, 107]⟩⟩))), (3, (.const (.string ⟨⟨[102, 117, 110, 99]⟩⟩))), (4, (.const (.string ⟨⟨[116, 104, 114, 101, 97, 100]⟩⟩))), (5, (.const (.string ⟨⟨[118, 97, 114]⟩⟩))), (6, (.const (.string ⟨⟨[105, 102]⟩⟩))), (7, (.const (.string ⟨⟨[101, 108, 115, 101]⟩⟩))), (8, (.const (.string ⟨⟨[119, 104, 105, 108, 101]⟩⟩))), (9, (.const (.string ⟨⟨[119, 105, 116, 104]⟩⟩))), (10, (.const (.string ⟨⟨[112, 114, 105, 110, 116]⟩⟩))), (11, (.const (.string ⟨⟨[99, 97, 108, 108]⟩⟩))), (12, (.const (.string ⟨⟨[114, 101, 116, 117, 114, 110]⟩⟩))), (13, (.const (.string ⟨⟨[116, 114, 117, 101]⟩⟩))), (14, (.const (.string ⟨⟨[102, 97, 108, 115, 101]⟩⟩)))]) none,
  .run (.call ⟨.builtin .len, #[(.tmp 0)], #[28]⟩) none,
  .run (.move (.const (.int .i64 0))) none] [(115, 0), (114, 1), (113, 2)]) (
.block 2 (
 .loop (
  .seq (
  .reg [.run (.binOp .lss 3 (.tmp (far + 115)) (.tmp (far + 114)) 3) none] [(116, 0)]) (
  .seq (
  .cond (.tmp 116) (
    .skip) (
    .exit 2)) (
  .seq (
  .block 3 (
   .seq (
   .reg [.run (.indexAddr 28 (.tmp (far + 113)) (.tmp (far + 115))) none,
     .run (.load 9 (.tmp 0)) none] [(4, 0)]) (
   .seq (
   .reg [.get 4,
     .run (.call ⟨.value (.func 12), #[(.tmp 0)], #[9]⟩) none,
     .run (.unOp .not 4 (.tmp 0)) none,
     .run (.move (.tmp (far + 4))) (some ((.tmp 0), false)),
     .run (.call ⟨.value (.func 13), #[(.tmp 0)], #[9]⟩) (some ((.tmp 1), false)),
     .run (.pick (.tmp 2) (.const (.bool true)) (.tmp 0)) none,
     .run (.move (.tmp (far + 4))) (some ((.tmp 0), false)),
     .run (.binOp .add 9 (.tmp 0) (.const (.string ⟨⟨[115]⟩⟩)) 9) (some ((.tmp 1), false)),
     .run (.call ⟨.value (.func 12), #[(.tmp 0)], #[9]⟩) (some ((.tmp 2), false)),
     .run (.pick (.tmp 3) (.const (.bool true)) (.tmp 0)) none,
     .run (.move (.tmp (far + 4))) (some ((.tmp 0), false)),
     .run (.binOp .add 9 (.tmp 0) (.const (.string ⟨⟨[115]⟩⟩)) 9) (some ((.tmp 1), false)),
     .run (.call ⟨.value (.func 13), #[(.tmp 0)], #[9]⟩) (some ((.tmp 2), false)),
     .run (.unOp .not 4 (.tmp 0)) (some ((.tmp 3), false)),
     .run (.pick (.tmp 4) (.const (.bool true)) (.tmp 0)) none] [(136, 0)]) (
   .cond (.tmp 136) (
     .seq (
     .reg [.run (.assign (.const (.bool false))) none] [(0, 0)]) (
     .ret)) (
     .skip))))) (
  .reg [.run (.binOp .add 3 (.tmp (far + 115)) (.const (.int .i64 1)) 3) none] [(115, 0)]))))))) (
.seq (
.reg [.run (.call ⟨.value (.func 10), #[(.const (.int .i64 65537)), (.const (.int .u8 36))], #[3, 5]⟩) none,
  .run (.call ⟨.value (.func 14), #[(.tmp 0)], #[9]⟩) none,
  .run (.extract (.tmp 0) 0) none,
  .run (.extract (.tmp 1) 1) none,
  .run (.extract (.tmp 2) 2) none] [(7, 0), (6, 1)]) (
.seq (
.reg [.run (.call ⟨.value (.func 10), #[(.const (.int .i64 65536)), (.const (.int .u8 32))], #[3, 5]⟩) none,
  .run (.call ⟨.value (.func 14), #[(.tmp 0)], #[9]⟩) none,
  .run (.extract (.tmp 0) 0) none,
  .run (.extract (.tmp 1) 1) none,
  .run (.extract (.tmp 2) 2) none] [(10, 0), (8, 2)]) (
.seq (
.reg [.get 6,
  .run (.binOp .eql 3 (.tmp 0) (.const (.int .i64 0)) 3) none,
  .run (.move (.tmp (far + 7))) (some ((.tmp 0), true)),
  .run (.binOp .eql 31 (.tmp 0) (.const (.int .i64 40)) 31) (some ((.tmp 1), true)),
  .run (.pick (.tmp 2) (.tmp 0) (.const (.bool false))) none,
  .run (.move (.tmp (far + 10))) (some ((.tmp 0), true)),
  .run (.binOp .eql 31 (.tmp 0) (.const (.int .i64 0)) 31) (some ((.tmp 1), true)),
  .run (.pick (.tmp 2) (.tmp 0) (.const (.bool false))) none,
  .run (.move (.tmp (far + 8))) (some ((.tmp 0), true)),
  .run (.call ⟨.builtin .len, #[(.tmp 0)], #[30]⟩) (some ((.tmp 1), true)),
  .run (.binOp .eql 3 (.tmp 0) (.const (.int .i64 0)) 3) (some ((.tmp 2), true)),
  .run (.pick (.tmp 3) (.tmp 0) (.const (.bool false))) none,
  .run (.call ⟨.value (.func 13), #[(.const (.string ⟨⟨[]⟩⟩))], #[9]⟩) (some ((.tmp 0), true)),
  .run (.unOp .not 4 (.tmp 0)) (some ((.tmp 1), true)),
  .run (.pick (.tmp 2) (.tmp 0) (.const (.bool false))) none,
  .run (.call ⟨.value (.func 13), #[(.const (.string ⟨⟨[49, 97]⟩⟩))], #[9]⟩) (some ((.tmp 0), true)),
  .run (.unOp .not 4 (.tmp 0)) (some ((.tmp 1), true)),
  .run (.pick (.tmp 2) (.tmp 0) (.const (.bool false))) none,
  .run (.call ⟨.value (.func 13), #[(.const (.string ⟨⟨[97, 32, 98]⟩⟩))], #[9]⟩) (some ((.tmp 0), true)),
  .run (.unOp .not 4 (.tmp 0)) (some ((.tmp 1), true)),
  .run (.pick (.tmp 2) (.tmp 0) (.const (.bool false))) none,
  .run (.call ⟨.value (.func 10), #[(.const (.int .i64 33)), (.const (.int .u8 97))], #[3, 5]⟩) (some ((.tmp 0), true)),
  .run (.call ⟨.value (.func 13), #[(.tmp 0)], #[9]⟩) (some ((.tmp 1), true)),
  .run (.unOp .not 4 (.tmp 0)) (some ((.tmp 2), true)),
  .run (.pick (.tmp 3) (.tmp 0) (.const (.bool false))) none,
  .run (.call ⟨.value (.func 10), #[(.const (.int .i64 32)), (.const (.int .u8 95))], #[3, 5]⟩) (some ((.tmp 0), true)),
  .run (.call ⟨.value (.func 13), #[(.tmp 0)], #[9]⟩) (some ((.tmp 1), true)),
  .run (.pick (.tmp 2) (.tmp 0) (.const (.bool false))) none] [(0, 0)]) (
.ret)))))))))
theorem fn_law01_LexNames : V.F 3 = some Tryd.f3 := by kernel_rfl
theorem is_law01_LexNames : (V.F 3).isSome = true := by rw [fn_law01_LexNames]; rfl
noncomputable def c_law01_LexNames : Code := match Tryd.f3.body with
  | some c => c
  | none => .skip
theorem b_law01_LexNames : Tryd.f3.body = some c_law01_LexNames := rfl
theorem pc_law01_LexNames : pcOf V Tryd.f3.ntmps (some (liveOf Tryd.f3 c_law01_LexNames)) c_law01_LexNames = some P_law01_LexNames := by kernel_rfl
theorem Lc.law01_LexNames {O : Orc} {vs : List Value} {H : AH} {R : Value → AH → Prop} (ho : O 3 vs H = none) (hlen : vs.length ≤ Tryd.f3.ntmps) (hlive : (List.range vs.length).all (isLive (some (liveOf Tryd.f3 c_law01_LexNames))) = true)
    (h : WP V O (some (liveOf Tryd.f3 c_law01_LexNames)) Tryd.f3.ntmps P_law01_LexNames (initL vs 0) H fun e l H' => (e = .normal ∨ e = .ret) ∧ ∃ rs, resL V l H' Tryd.f3.results.toList = some rs ∧ R (resOf rs) H') : ∃ v H', Lc V O 3 vs H v H' ∧ R v H' :=
  Lc.fnP ho fn_law01_LexNames b_law01_LexNames pc_law01_LexNames hlen hlive h

/- bobbin/bobbinlaw01.LexTokens -/
abbrev F_law01_LexTokens : FuncId := 4
def P_law01_LexTokens : PC :=
.seq (
.reg [.run (.assign (.const (.bool false))) none] [(2, 0)]) (
.seq (
.seq (
.reg [.get 0,
  .run (.call ⟨.builtin .len, #[(.tmp 0)], #[9]⟩) none,
  .run (.binOp .gtr 3 (.tmp 0) (.const (.int .i64 70000)) 3) none] [(13, 0)]) (
.cond (.tmp 13) (
  .seq (
  .reg [.run (.assign (.const (.bool true))) none] [(2, 0)]) (
  .ret)) (
  .skip))) (
.seq (
.reg [.get 0,
  .run (.call ⟨.value (.func 15), #[(.tmp 0)], #[9]⟩) none,
  .run (.extract (.tmp 0) 0) none,
  .run (.extract (.tmp 1) 1) none,
  .run (.extract (.tmp 2) 2) none] [(5, 0), (4, 1), (3, 2)]) (
.seq (
.seq (
.reg [.run (.assign (.const (.int .i64 0))) none] [(6, 0)]) (
.block 0 (
 .loop (
  .seq (
  .seq (
  .reg [.get 6,
    .run (.binOp .lss 3 (.tmp 0) (.const (.int .i64 2)) 3) none] [(21, 0)]) (
  .cond (.tmp 21) (
    .skip) (
    .exit 0))) (
  .seq (
  .block 1 (
   .seq (
   .reg [.get 0,
     .run (.call ⟨.value (.func 14), #[(.tmp 0)], #[9]⟩) none,
     .run (.extract (.tmp 0) 0) none,
     .run (.extract (.tmp 1) 1) none,
     .run (.extract (.tmp 2) 2) none] [(9, 0), (8, 1), (7, 2)]) (
   .seq (
   .seq (
   .reg [.get 7,
     .get 3,
     .run (.call ⟨.value (.func 16), #[(.tmp 1), (.tmp 0)], #[30, 30]⟩) none,
     .run (.unOp .not 4 (.tmp 0)) none,
     .run (.move (.tmp (far + 8))) (some ((.tmp 0), false)),
     .run (.move (.tmp (far + 4))) (some ((.tmp 1), false)),
     .run (.binOp .neq 3 (.tmp 1) (.tmp 0) 3) (some ((.tmp 2), false)),
     .run (.pick (.tmp 3) (.const (.bool true)) (.tmp 0)) none,
     .run (.move (.tmp (far + 9))) (some ((.tmp 0), false)),
     .run (.move (.tmp (far + 5))) (some ((.tmp 1), false)),
     .run (.binOp .neq 31 (.tmp 1) (.tmp 0) 31) (some ((.tmp 2), false)),
     .run (.pick (.tmp 3) (.const (.bool true)) (.tmp 0)) none] [(43, 0)]) (
   .cond (.tmp 43) (
     .seq (
     .reg [.run (.assign (.const (.bool false))) none] [(2, 0)]) (
     .ret)) (
     .skip))) (
   .seq (
   .reg [.run (.assign (.const (.int .i64 0))) none] [(10, 0)]) (
   .block 2 (
    .loop (
     .seq (
     .seq (
     .reg [.get 10,
       .get 7,
       .run (.call ⟨.builtin .len, #[(.tmp 0)], #[30]⟩) none,
       .run (.binOp .lss 3 (.tmp 2) (.tmp 0) 3) none] [(47, 0)]) (
     .cond (.tmp 47) (
       .skip) (
       .exit 2))) (
     .seq (
     .block 3 (
      .reg [.get 7,
        .get 10,
        .run (.build 36 #[(1, (.const (.string ⟨⟨[63]⟩⟩)))]) none,
        .run (.indexAddr 30 (.tmp 2) (.tmp 1)) none,
        .run (.store 36 (.tmp 0) (.tmp 1)) none] [])) (
     .reg [.get 10,
       .run (.binOp .add 3 (.tmp 0) (.const (.int .i64 1)) 3) none] [(10, 0)]))))))))) (
  .reg [.get 6,
    .run (.binOp .add 3 (.tmp 0) (.const (.int .i64 1)) 3) none] [(6, 0)])))))) (
.seq (
.reg [.get 0,
  .run (.call ⟨.value (.func 13), #[(.tmp 0)], #[9]⟩) none,
  .get 0,
  .run (.call ⟨.value (.func 17), #[(.tmp 0)], #[9]⟩) none,
  .run (.binOp .eql 4 (.tmp 2) (.tmp 0) 4) none,
  .run (.move (.tmp (far + 0))) (some ((.tmp 0), true)),
  .run (.call ⟨.value (.func 12), #[(.tmp 0)], #[9]⟩) (some ((.tmp 1), true)),
  .run (.move (.tmp (far + 0))) (some ((.tmp 2), true)),
  .run (.call ⟨.value (.func 18), #[(.tmp 0)], #[9]⟩) (some ((.tmp 3), true)),
  .run (.binOp .eql 4 (.tmp 2) (.tmp 0) 4) (some ((.tmp 4), true)),
  .run (.pick (.tmp 5) (.tmp 0) (.const (.bool false))) none] [(2, 0)]) (
.ret)))))
theorem fn_law01_LexTokens : V.F 4 = some Tryd.f4 := by kernel_rfl
theorem is_law01_LexTokens : (V.F 4).isSome = true := by rw [fn_law01_LexTokens]; rfl
noncomputable def c_law01_LexTokens : Code := match Tryd.f4.body with
  | some c => c
  | none => .skip
theorem b_law01_LexTokens : Tryd.f4.body = some c_law01_LexTokens := rfl
theorem pc_law01_LexTokens : pcOf V Tryd.f4.ntmps (some (liveOf Tryd.f4 c_law01_LexTokens)) c_law01_LexTokens = some P_law01_LexTokens := by kernel_rfl
theorem Lc.law01_LexTokens {O : Orc} {vs : List Value} {H : AH} {R : Value → AH → Prop} (ho : O 4 vs H = none) (hlen : vs.length ≤ Tryd.f4.ntmps) (hlive : (List.range vs.length).all (isLive (some (liveOf Tryd.f4 c_law01_LexTokens))) = true)
    (h : WP V O (some (liveOf Tryd.f4 c_law01_LexTokens)) Tryd.f4.ntmps P_law01_LexTokens (initL vs 0) H fun e l H' => (e = .normal ∨ e = .ret) ∧ ∃ rs, resL V l H' Tryd.f4.results.toList = some rs ∧ R (resOf rs) H') : ∃ v H', Lc V O 4 vs H v H' ∧ R v H' :=
  Lc.fnP ho fn_law01_LexTokens b_law01_LexTokens pc_law01_LexTokens hlen hlive h

/- bobbin/bobbinlaw01.LexCovers -/
abbrev F_law01_LexCovers : FuncId := 5
def P_law01_LexCovers : PC :=
.seq (
.reg [.run (.assign (.const (.bool false))) none] [(4, 0)]) (
.seq (
.seq (
.reg [.run (.call ⟨.value (.func 8), #[], #[]⟩) none,
  .run (.unOp .not 4 (.tmp 0)) none,
  .run (.move (.tmp (far + 0))) (some ((.tmp 0), false)),
  .run (.call ⟨.builtin .len, #[(.tmp 0)], #[9]⟩) (some ((.tmp 1), false)),
  .run (.binOp .gtr 3 (.tmp 0) (.const (.int .i64 20000)) 3) (some ((.tmp 2), false)),
  .run (.pick (.tmp 3) (.const (.bool true)) (.tmp 0)) none,
  .run (.move (.tmp (far + 1))) (some ((.tmp 0), false)),
  .run (.call ⟨.builtin .len, #[(.tmp 0)], #[9]⟩) (some ((.tmp 1), false)),
  .run (.binOp .gtr 3 (.tmp 0) (.const (.int .i64 20000)) 3) (some ((.tmp 2), false)),
  .run (.pick (.tmp 3) (.const (.bool true)) (.tmp 0)) none] [(33, 0)]) (
.cond (.tmp 33) (
  .seq (
  .reg [.run (.call ⟨.value (.func 8), #[], #[]⟩) none] [(4, 0)]) (
  .ret)) (
  .skip))) (
.seq (
.reg [.get 0,
  .run (.call ⟨.value (.func 14), #[(.tmp 0)], #[9]⟩) none,
  .run (.extract (.tmp 0) 0) none,
  .run (.extract (.tmp 1) 1) none,
  .run (.extract (.tmp 2) 2) none] [(7, 0), (5, 2)]) (
.seq (
.reg [.get 1,
  .run (.call ⟨.value (.func 14), #[(.tmp 0)], #[9]⟩) none,
  .run (.extract (.tmp 0) 0) none,
  .run (.extract (.tmp 1) 1) none,
  .run (.extract (.tmp 2) 2) none] [(10, 0), (9, 1), (8, 2)]) (
.seq (
.seq (
.reg [.get 7,
  .run (.binOp .neq 31 (.tmp 0) (.const (.int .i64 0)) 31) none] [(48, 0)]) (
.cond (.tmp 48) (
  .seq (
  .reg [.run (.assign (.const (.bool true))) none] [(4, 0)]) (
  .ret)) (
  .skip))) (
.seq (
.reg [.run (.assign (.const (.int .i64 0))) none] [(11, 0)]) (
.seq (
.reg [.run (.assign (.const (.string ⟨⟨[]⟩⟩))) none] [(12, 0)]) (
.seq (
.seq (
.reg [.run (.assign (.const (.int .i64 0))) none] [(13, 0)]) (
.block 0 (
 .loop (
  .seq (
  .seq (
  .reg [.get 13,
    .get 5,
    .run (.call ⟨.builtin .len, #[(.tmp 0)], #[30]⟩) none,
    .run (.binOp .lss 3 (.tmp 2) (.tmp 0) 3) none] [(52, 0)]) (
  .cond (.tmp 52) (
    .skip) (
    .exit 0))) (
  .seq (
  .block 1 (
   .seq (
   .seq (
   .reg [.get 5,
     .get 13,
     .run (.indexAddr 30 (.tmp 1) (.tmp 0)) none,
     .run (.fieldAddr 36 (.tmp 0) 2) none,
     .run (.load 3 (.tmp 0)) none,
     .get 11,
     .run (.binOp .lss 3 (.tmp 1) (.tmp 0) 3) none,
     .run (.move (.tmp (far + 0))) (some ((.tmp 0), false)),
     .run (.move (.tmp (far + 11))) (some ((.tmp 1), false)),
     .run (.move (.tmp (far + 5))) (some ((.tmp 2), false)),
     .run (.move (.tmp (far + 13))) (some ((.tmp 3), false)),
     .run (.indexAddr 30 (.tmp 1) (.tmp 0)) (some ((.tmp 4), false)),
     .run (.fieldAddr 36 (.tmp 0) 2) (some ((.tmp 5), false)),
     .run (.load 3 (.tmp 0)) (some ((.tmp 6), false)),
     .run (.slice 9 (.tmp 6) (some (.tmp 5)) (some (.tmp 0)) none) (some ((.tmp 7), false)),
     .run (.call ⟨.value (.func 19), #[(.tmp 0)], #[9]⟩) (some ((.tmp 8), false)),
     .run (.unOp .not 4 (.tmp 0)) (some ((.tmp 9), false)),
     .run (.pick (.tmp 10) (.const (.bool true)) (.tmp 0)) none,
     .run (.move (.tmp (far + 5))) (some ((.tmp 0), false)),
     .run (.move (.tmp (far + 13))) (some ((.tmp 1), false)),
     .run (.indexAddr 30 (.tmp 1) (.tmp 0)) (some ((.tmp 2), false)),
     .run (.fieldAddr 36 (.tmp 0) 1) (some ((.tmp 3), false)),
     .run (.load 9 (.tmp 0)) (some ((.tmp 4), false)),
     .run (.binOp .eql 9 (.tmp 0) (.const (.string ⟨⟨[]⟩⟩)) 9) (some ((.tmp 5), false)),
     .run (.pick (.tmp 6) (.const (.bool true)) (.tmp 0)) none,
     .run (.move (.tmp (far + 0))) (some ((.tmp 0), false)),
     .run (.move (.tmp (far + 5))) (some ((.tmp 1), false)),
     .run (.move (.tmp (far + 13))) (some ((.tmp 2), false)),
     .run (.indexAddr 30 (.tmp 1) (.tmp 0)) (some ((.tmp 3), false)),
     .run (.fieldAddr 36 (.tmp 0) 2) (some ((.tmp 4), false)),
     .run (.load 3 (.tmp 0)) (some ((.tmp 5), false)),
     .run (.move (.tmp (far + 5))) (some ((.tmp 6), false)),
     .run (.move (.tmp (far + 13))) (some ((.tmp 7), false)),
     .run (.indexAddr 30 (.tmp 1) (.tmp 0)) (some ((.tmp 8), false)),
     .run (.fieldAddr 36 (.tmp 0) 2) (some ((.tmp 9), false)),
     .run (.load 3 (.tmp 0)) (some ((.tmp 10), false)),
     .run (.move (.tmp (far + 5))) (some ((.tmp 11), false)),
     .run (.move (.tmp (far + 13))) (some ((.tmp 12), false)),
     .run (.indexAddr 30 (.tmp 1) (.tmp 0)) (some ((.tmp 13), false)),
     .run (.fieldAddr 36 (.tmp 0) 1) (some ((.tmp 14), false)),
     .run (.load 9 (.tmp 0)) (some ((.tmp 15), false)),
     .run (.call ⟨.builtin .len, #[(.tmp 0)], #[9]⟩) (some ((.tmp 16), false)),
     .run (.binOp .add 3 (.tmp 6) (.tmp 0) 3) (some ((.tmp 17), false)),
     .run (.slice 9 (.tmp 17) (some (.tmp 12)) (some (.tmp 0)) none) (some ((.tmp 18), false)),
     .run (.move (.tmp (far + 5))) (some ((.tmp 19), false)),
     .run (.move (.tmp (far + 13))) (some ((.tmp 20), false)),
     .run (.indexAddr 30 (.tmp 1) (.tmp 0)) (some ((.tmp 21), false)),
     .run (.fieldAddr 36 (.tmp 0) 1) (some ((.tmp 22), false)),
     .run (.load 9 (.tmp 0)) (some ((.tmp 23), false)),
     .run (.binOp .neq 9 (.tmp 5) (.tmp 0) 9) (some ((.tmp 24), false)),
     .run (.pick (.tmp 25) (.const (.bool true)) (.tmp 0)) none] [(108, 0)]) (
   .cond (.tmp 108) (
     .seq (
     .reg [.run (.assign (.const (.bool false))) none] [(4, 0)]) (
     .ret)) (
     .skip))) (
   .seq (
   .reg [.get 5,
     .get 13,
     .run (.indexAddr 30 (.tmp 1) (.tmp 0)) none,
     .run (.fieldAddr 36 (.tmp 0) 2) none,
     .run (.load 3 (.tmp 0)) none,
     .get 5,
     .get 13,
     .run (.indexAddr 30 (.tmp 1) (.tmp 0)) none,
     .run (.fieldAddr 36 (.tmp 0) 1) none,
     .run (.load 9 (.tmp 0)) none,
     .run (.call ⟨.builtin .len, #[(.tmp 0)], #[9]⟩) none,
     .run (.binOp .add 3 (.tmp 6) (.tmp 0) 3) none] [(11, 0)]) (
   .reg [.get 12,
     .get 5,
     .get 13,
     .run (.indexAddr 30 (.tmp 1) (.tmp 0)) none,
     .run (.fieldAddr 36 (.tmp 0) 1) none,
     .run (.load 9 (.tmp 0)) none,
     .run (.binOp .add 9 (.tmp 5) (.tmp 0) 9) none,
     .run (.binOp .add 9 (.tmp 0) (.const (.string ⟨⟨[32]⟩⟩)) 9) none] [(12, 0)])))) (
  .reg [.get 13,
    .run (.binOp .add 3 (.tmp 0) (.const (.int .i64 1)) 3) none] [(13, 0)])))))) (
.seq (
.seq (
.reg [.get 0,
  .get 11,
  .run (.slice 9 (.tmp 1) (some (.tmp 0)) none none) none,
  .run (.call ⟨.value (.func 19), #[(.tmp 0)], #[9]⟩) none,
  .run (.unOp .not 4 (.tmp 0)) none] [(133, 0)]) (
.cond (.tmp 133) (
  .seq (
  .reg [.run (.assign (.const (.bool false))) none] [(4, 0)]) (
  .ret)) (
  .skip))) (
.seq (
.reg [.get 12,
  .run (.call ⟨.value (.func 14), #[(.tmp 0)], #[9]⟩) none,
  .run (.extract (.tmp 0) 0) none,
  .run (.extract (.tmp 1) 1) none,
  .run (.extract (.tmp 2) 2) none] [(16, 0), (14, 2)]) (
.seq (
.seq (
.reg [.get 16,
  .run (.binOp .neq 31 (.tmp 0) (.const (.int .i64 0)) 31) none,
  .run (.move (.tmp (far + 14))) (some ((.tmp 0), false)),
  .run (.call ⟨.builtin .len, #[(.tmp 0)], #[30]⟩) (some ((.tmp 1), false)),
  .run (.move (.tmp (far + 5))) (some ((.tmp 2), false)),
  .run (.call ⟨.builtin .len, #[(.tmp 0)], #[30]⟩) (some ((.tmp 3), false)),
  .run (.binOp .neq 3 (.tmp 2) (.tmp 0) 3) (some ((.tmp 4), false)),
  .run (.pick (.tmp 5) (.const (.bool true)) (.tmp 0)) none] [(148, 0)]) (
.cond (.tmp 148) (
  .seq (
  .reg [.run (.assign (.const (.bool false))) none] [(4, 0)]) (
  .ret)) (
  .skip))) (
.seq (
.seq (
.reg [.run (.assign (.const (.int .i64 0))) none] [(17, 0)]) (
.block 2 (
 .loop (
  .seq (
  .seq (
  .reg [.get 17,
    .get 5,
    .run (.call ⟨.builtin .len, #[(.tmp 0)], #[30]⟩) none,
    .run (.binOp .lss 3 (.tmp 2) (.tmp 0) 3) none] [(152, 0)]) (
  .cond (.tmp 152) (
    .skip) (
    .exit 2))) (
  .seq (
  .block 3 (
   .seq (
   .reg [.get 14,
     .get 17,
     .run (.indexAddr 30 (.tmp 1) (.tmp 0)) none,
     .run (.fieldAddr 36 (.tmp 0) 0) none,
     .run (.load 5 (.tmp 0)) none,
     .get 5,
     .get 17,
     .run (.indexAddr 30 (.tmp 1) (.tmp 0)) none,
     .run (.fieldAddr 36 (.tmp 0) 0) none,
     .run (.load 5 (.tmp 0)) none,
     .run (.binOp .neq 5 (.tmp 5) (.tmp 0) 5) none,
     .run (.move (.tmp (far + 14))) (some ((.tmp 0), false)),
     .run (.move (.tmp (far + 17))) (some ((.tmp 1), false)),
     .run (.indexAddr 30 (.tmp 1) (.tmp 0)) (some ((.tmp 2), false)),
     .run (.fieldAddr 36 (.tmp 0) 1) (some ((.tmp 3), false)),
     .run (.load 9 (.tmp 0)) (some ((.tmp 4), false)),
     .run (.move (.tmp (far + 5))) (some ((.tmp 5), false)),
     .run (.move (.tmp (far + 17))) (some ((.tmp 6), false)),
     .run (.indexAddr 30 (.tmp 1) (.tmp 0)) (some ((.tmp 7), false)),
     .run (.fieldAddr 36 (.tmp 0) 1) (some ((.tmp 8), false)),
     .run (.load 9 (.tmp 0)) (some ((.tmp 9), false)),
     .run (.binOp .neq 9 (.tmp 5) (.tmp 0) 9) (some ((.tmp 10), false)),
     .run (.pick (.tmp 11) (.const (.bool true)) (.tmp 0)) none] [(178, 0)]) (
   .cond (.tmp 178) (
     .seq (
     .reg [.run (.assign (.const (.bool false))) none] [(4, 0)]) (
     .ret)) (
     .skip)))) (
  .reg [.get 17,
    .run (.binOp .add 3 (.tmp 0) (.const (.int .i64 1)) 3) none] [(17, 0)])))))) (
.seq (
.reg [.get 0,
  .run (.binOp .add 9 (.tmp 0) (.const (.string ⟨⟨[10]⟩⟩)) 9) none,
  .get 1,
  .run (.binOp .add 9 (.tmp 1) (.tmp 0) 9) none,
  .run (.call ⟨.value (.func 14), #[(.tmp 0)], #[9]⟩) none,
  .run (.extract (.tmp 0) 0) none,
  .run (.extract (.tmp 1) 1) none,
  .run (.extract (.tmp 2) 2) none] [(20, 0), (19, 1), (18, 2)]) (
.seq (
.seq (
.reg [.get 10,
  .run (.binOp .neq 31 (.tmp 0) (.const (.int .i64 0)) 31) none] [(189, 0)]) (
.cond (.tmp 189) (
  .seq (
  .reg [.get 20,
    .get 10,
    .run (.binOp .eql 31 (.tmp 1) (.tmp 0) 31) none,
    .run (.move (.tmp (far + 19))) (some ((.tmp 0), true)),
    .run (.move (.tmp (far + 0))) (some ((.tmp 1), true)),
    .run (.call ⟨.builtin .len, #[(.tmp 0)], #[9]⟩) (some ((.tmp 2), true)),
    .run (.binOp .add 3 (.tmp 0) (.const (.int .i64 1)) 3) (some ((.tmp 3), true)),
    .run (.move (.tmp (far + 9))) (some ((.tmp 4), true)),
    .run (.binOp .add 3 (.tmp 1) (.tmp 0) 3) (some ((.tmp 5), true)),
    .run (.binOp .eql 3 (.tmp 5) (.tmp 0) 3) (some ((.tmp 6), true)),
    .run (.pick (.tmp 7) (.tmp 0) (.const (.bool false))) none] [(4, 0)]) (
  .ret)) (
  .skip))) (
.seq (
.seq (
.reg [.run (.assign (.const (.int .i64 0))) none] [(21, 0)]) (
.block 4 (
 .loop (
  .seq (
  .seq (
  .reg [.get 21,
    .get 8,
    .run (.call ⟨.builtin .len, #[(.tmp 0)], #[30]⟩) none,
    .run (.binOp .lss 3 (.tmp 2) (.tmp 0) 3) none] [(205, 0)]) (
  .cond (.tmp 205) (
    .skip) (
    .exit 4))) (
  .seq (
  .block 5 (
   .reg [.get 8,
     .get 21,
     .get 8,
     .get 21,
     .run (.indexAddr 30 (.tmp 1) (.tmp 0)) none,
     .run (.fieldAddr 36 (.tmp 0) 2) none,
     .run (.load 3 (.tmp 0)) none,
     .get 0,
     .run (.call ⟨.builtin .len, #[(.tmp 0)], #[9]⟩) none,
     .run (.binOp .add 3 (.tmp 2) (.tmp 0) 3) none,
     .run (.binOp .add 3 (.tmp 0) (.const (.int .i64 1)) 3) none,
     .run (.indexAddr 30 (.tmp 10) (.tmp 9)) none,
     .run (.fieldAddr 36 (.tmp 0) 2) none,
     .run (.store 3 (.tmp 0) (.tmp 2)) none] [])) (
  .reg [.get 21,
    .run (.binOp .add 3 (.tmp 0) (.const (.int .i64 1)) 3) none] [(21, 0)])))))) (
.seq (
.reg [.get 20,
  .run (.binOp .eql 31 (.tmp 0) (.const (.int .i64 0)) 31) none,
  .run (.move (.tmp (far + 18))) (some ((.tmp 0), true)),
  .run (.move (.tmp (far + 5))) (some ((.tmp 1), true)),
  .run (.move (.tmp (far + 8))) (some ((.tmp 2), true)),
  .run (.call ⟨.builtin .append, #[(.tmp 1), (.tmp 0)], #[30, 30]⟩) (some ((.tmp 3), true)),
  .run (.call ⟨.value (.func 16), #[(.tmp 3), (.tmp 0)], #[30, 30]⟩) (some ((.tmp 4), true)),
  .run (.pick (.tmp 5) (.tmp 0) (.const (.bool false))) none] [(4, 0)]) (
.ret))))))))))))))))
theorem fn_law01_LexCovers : V.F 5 = some Tryd.f5 := by kernel_rfl
theorem is_law01_LexCovers : (V.F 5).isSome = true := by rw [fn_law01_LexCovers]; rfl
noncomputable def c_law01_LexCovers : Code := match Tryd.f5.body with
  | some c => c
  | none => .skip
theorem b_law01_LexCovers : Tryd.f5.body = some c_law01_LexCovers := rfl
theorem pc_law01_LexCovers : pcOf V Tryd.f5.ntmps (some (liveOf Tryd.f5 c_law01_LexCovers)) c_law01_LexCovers = some P_law01_LexCovers := by kernel_rfl
theorem Lc.law01_LexCovers {O : Orc} {vs : List Value} {H : AH} {R : Value → AH → Prop} (ho : O 5 vs H = none) (hlen : vs.length ≤ Tryd.f5.ntmps) (hlive : (List.range vs.length).all (isLive (some (liveOf Tryd.f5 c_law01_LexCovers))) = true)
    (h : WP V O (some (liveOf Tryd.f5 c_law01_LexCovers)) Tryd.f5.ntmps P_law01_LexCovers (initL vs 0) H fun e l H' => (e = .normal ∨ e = .ret) ∧ ∃ rs, resL V l H' Tryd.f5.results.toList = some rs ∧ R (resOf rs) H') : ∃ v H', Lc V O 5 vs H v H' ∧ R v H' :=
  Lc.fnP ho fn_law01_LexCovers b_law01_LexCovers pc_law01_LexCovers hlen hlive h

/- bobbin/bobbinlaw01.LexWord -/
abbrev F_law01_LexWord : FuncId := 7
def P_law01_LexWord : PC :=
.seq (
.reg [.run (.assign (.const (.bool false))) none] [(4, 0)]) (
.seq (
.seq (
.reg [.run (.call ⟨.value (.func 8), #[], #[]⟩) none,
  .run (.unOp .not 4 (.tmp 0)) none,
  .run (.move (.tmp (far + 0))) (some ((.tmp 0), false)),
  .run (.call ⟨.builtin .len, #[(.tmp 0)], #[9]⟩) (some ((.tmp 1), false)),
  .run (.binOp .gtr 3 (.tmp 0) (.const (.int .i64 1000)) 3) (some ((.tmp 2), false)),
  .run (.pick (.tmp 3) (.const (.bool true)) (.tmp 0)) none] [(17, 0)]) (
.cond (.tmp 17) (
  .seq (
  .reg [.run (.call ⟨.value (.func 8), #[], #[]⟩) none] [(4, 0)]) (
  .ret)) (
  .skip))) (
.seq (
.reg [.get 0,
  .run (.call ⟨.value (.func 13), #[(.tmp 0)], #[9]⟩) none] [(5, 0)]) (
.seq (
.reg [.get 0,
  .run (.call ⟨.value (.func 12), #[(.tmp 0)], #[9]⟩) none] [(6, 0)]) (
.seq (
.seq (
.reg [.get 5,
  .run (.move (.tmp (far + 6))) (some ((.tmp 0), true)),
  .run (.pick (.tmp 1) (.tmp 0) (.const (.bool false))) none] [(26, 0)]) (
.cond (.tmp 26) (
  .seq (
  .reg [.run (.assign (.const (.bool false))) none] [(4, 0)]) (
  .ret)) (
  .skip))) (
.seq (
.seq (
.reg [.get 5,
  .run (.unOp .not 4 (.tmp 0)) none,
  .run (.move (.tmp (far + 6))) (some ((.tmp 0), true)),
  .run (.unOp .not 4 (.tmp 0)) (some ((.tmp 1), true)),
  .run (.pick (.tmp 2) (.tmp 0) (.const (.bool false))) none] [(32, 0)]) (
.cond (.tmp 32) (
  .seq (
  .reg [.run (.assign (.const (.bool true))) none] [(4, 0)]) (
  .ret)) (
  .skip))) (
.seq (
.reg [.get 0,
  .run (.call ⟨.value (.func 14), #[(.tmp 0)], #[9]⟩) none,
  .run (.extract (.tmp 0) 0) none,
  .run (.extract (.tmp 1) 1) none,
  .run (.extract (.tmp 2) 2) none] [(9, 0), (7, 2)]) (
.seq (
.seq (
.reg [.get 9,
  .run (.binOp .neq 31 (.tmp 0) (.const (.int .i64 0)) 31) none,
  .run (.move (.tmp (far + 7))) (some ((.tmp 0), false)),
  .run (.call ⟨.builtin .len, #[(.tmp 0)], #[30]⟩) (some ((.tmp 1), false)),
  .run (.binOp .neq 3 (.tmp 0) (.const (.int .i64 1)) 3) (some ((.tmp 2), false)),
  .run (.pick (.tmp 3) (.const (.bool true)) (.tmp 0)) none,
  .run (.move (.tmp (far + 7))) (some ((.tmp 0), false)),
  .run (.indexAddr 30 (.tmp 0) (.const (.int .i64 0))) (some ((.tmp 1), false)),
  .run (.fieldAddr 36 (.tmp 0) 1) (some ((.tmp 2), false)),
  .run (.load 9 (.tmp 0)) (some ((.tmp 3), false)),
  .run (.move (.tmp (far + 0))) (some ((.tmp 4), false)),
  .run (.binOp .neq 9 (.tmp 1) (.tmp 0) 9) (some ((.tmp 5), false)),
  .run (.pick (.tmp 6) (.const (.bool true)) (.tmp 0)) none,
  .run (.move (.tmp (far + 7))) (some ((.tmp 0), false)),
  .run (.indexAddr 30 (.tmp 0) (.const (.int .i64 0))) (some ((.tmp 1), false)),
  .run (.fieldAddr 36 (.tmp 0) 0) (some ((.tmp 2), false)),
  .run (.load 5 (.tmp 0)) (some ((.tmp 3), false)),
  .run (.binOp .neq 5 (.tmp 0) (.const (.int .u8 1)) 5) (some ((.tmp 4), false)),
  .run (.pick (.tmp 5) (.const (.bool true)) (.tmp 0)) none,
  .run (.move (.tmp (far + 7))) (some ((.tmp 0), false)),
  .run (.indexAddr 30 (.tmp 0) (.const (.int .i64 0))) (some ((.tmp 1), false)),
  .run (.fieldAddr 36 (.tmp 0) 2) (some ((.tmp 2), false)),
  .run (.load 3 (.tmp 0)) (some ((.tmp 3), false)),
  .run (.binOp .neq 3 (.tmp 0) (.const (.int .i64 0)) 3) (some ((.tmp 4), false)),
  .run (.pick (.tmp 5) (.const (.bool true)) (.tmp 0)) none,
  .run (.move (.tmp (far + 0))) (some ((.tmp 0), false)),
  .run (.call ⟨.builtin .len, #[(.tmp 0)], #[9]⟩) (some ((.tmp 1), false)),
  .run (.binOp .gtr 3 (.tmp 0) (.const (.int .i64 32)) 3) (some ((.tmp 2), false)),
  .run (.pick (.tmp 3) (.const (.bool true)) (.tmp 0)) none] [(72, 0)]) (
.cond (.tmp 72) (
  .seq (
  .reg [.run (.assign (.const (.bool false))) none] [(4, 0)]) (
  .ret)) (
  .skip))) (
.seq (
.seq (
.reg [.get 1,
  .run (.binOp .geq 5 (.tmp 0) (.const (.int .u8 97)) 5) none,
  .run (.move (.tmp (far + 1))) (some ((.tmp 0), true)),
  .run (.binOp .leq 5 (.tmp 0) (.const (.int .u8 122)) 5) (some ((.tmp 1), true)),
  .run (.pick (.tmp 2) (.tmp 0) (.const (.bool false))) none,
  .run (.move (.tmp (far + 1))) (some ((.tmp 0), false)),
  .run (.binOp .geq 5 (.tmp 0) (.const (.int .u8 65)) 5) (some ((.tmp 1), false)),
  .run (.move (.tmp 0)) (some ((.tmp 2), false)),
  .run (.move (.tmp (far + 1))) (some ((.tmp 0), true)),
  .run (.binOp .leq 5 (.tmp 0) (.const (.int .u8 90)) 5) (some ((.tmp 1), true)),
  .run (.pick (.tmp 2) (.tmp 0) (.const (.bool false))) (some ((.tmp 5), false)),
  .run (.pick (.tmp 6) (.const (.bool true)) (.tmp 0)) none,
  .run (.move (.tmp (far + 1))) (some ((.tmp 0), false)),
  .run (.binOp .geq 5 (.tmp 0) (.const (.int .u8 48)) 5) (some ((.tmp 1), false)),
  .run (.move (.tmp 0)) (some ((.tmp 2), false)),
  .run (.move (.tmp (far + 1))) (some ((.tmp 0), true)),
  .run (.binOp .leq 5 (.tmp 0) (.const (.int .u8 57)) 5) (some ((.tmp 1), true)),
  .run (.pick (.tmp 2) (.tmp 0) (.const (.bool false))) (some ((.tmp 5), false)),
  .run (.pick (.tmp 6) (.const (.bool true)) (.tmp 0)) none,
  .run (.move (.tmp (far + 1))) (some ((.tmp 0), false)),
  .run (.binOp .eql 5 (.tmp 0) (.const (.int .u8 95)) 5) (some ((.tmp 1), false)),
  .run (.pick (.tmp 2) (.const (.bool true)) (.tmp 0)) none] [(98, 0)]) (
.cond (.tmp 98) (
  .seq (
  .reg [.get 0,
    .get 1,
    .run (.buildSlice 40 1 #[(0, (.tmp 0))]) none,
    .run (.convert 40 9 (.tmp 0)) none,
    .run (.binOp .add 9 (.tmp 3) (.tmp 0) 9) none] [(10, 0)]) (
  .seq (
  .reg [.get 10,
    .run (.call ⟨.builtin .len, #[(.tmp 0)], #[9]⟩) none,
    .run (.binOp .gtr 3 (.tmp 0) (.const (.int .i64 32)) 3) none,
    .run (.move (.tmp (far + 10))) (some ((.tmp 0), false)),
    .run (.call ⟨.value (.func 13), #[(.tmp 0)], #[9]⟩) (some ((.tmp 1), false)),
    .run (.pick (.tmp 2) (.const (.bool true)) (.tmp 0)) none,
    .run (.move (.tmp (far + 10))) (some ((.tmp 0), false)),
    .run (.call ⟨.value (.func 12), #[(.tmp 0)], #[9]⟩) (some ((.tmp 1), false)),
    .run (.pick (.tmp 2) (.const (.bool true)) (.tmp 0)) none] [(4, 0)]) (
  .ret))) (
  .skip))) (
.seq (
.reg [.get 0,
  .get 1,
  .run (.buildSlice 40 1 #[(0, (.tmp 0))]) none,
  .run (.convert 40 9 (.tmp 0)) none,
  .run (.binOp .add 9 (.tmp 3) (.tmp 0) 9) none,
  .run (.call ⟨.value (.func 13), #[(.tmp 0)], #[9]⟩) none,
  .run (.unOp .not 4 (.tmp 0)) none] [(4, 0)]) (
.ret))))))))))
theorem fn_law01_LexWord : V.F 7 = some Tryd.f7 := by kernel_rfl
theorem is_law01_LexWord : (V.F 7).isSome = true := by rw [fn_law01_LexWord]; rfl
noncomputable def c_law01_LexWord : Code := match Tryd.f7.body with
  | some c => c
  | none => .skip
theorem b_law01_LexWord : Tryd.f7.body = some c_law01_LexWord := rfl
theorem pc_law01_LexWord : pcOf V Tryd.f7.ntmps (some (liveOf Tryd.f7 c_law01_LexWord)) c_law01_LexWord = some P_law01_LexWord := by kernel_rfl
theorem Lc.law01_LexWord {O : Orc} {vs : List Value} {H : AH} {R : Value → AH → Prop} (ho : O 7 vs H = none) (hlen : vs.length ≤ Tryd.f7.ntmps) (hlive : (List.range vs.length).all (isLive (some (liveOf Tryd.f7 c_law01_LexWord))) = true)
    (h : WP V O (some (liveOf Tryd.f7 c_law01_LexWord)) Tryd.f7.ntmps P_law01_LexWord (initL vs 0) H fun e l H' => (e = .normal ∨ e = .ret) ∧ ∃ rs, resL V l H' Tryd.f7.results.toList = some rs ∧ R (resOf rs) H') : ∃ v H', Lc V O 7 vs H v H' ∧ R v H' :=
  Lc.fnP ho fn_law01_LexWord b_law01_LexWord pc_law01_LexWord hlen hlive h

/- bobbin/bobbinlaw01.works -/
abbrev F_law01_works : FuncId := 8
def P_law01_works : PC :=
.seq (
.reg [.run (.assign (.const (.bool false))) none] [(0, 0)]) (
.seq (
.reg [.run (.buildSlice 28 5 #[(0, (.const (.string ⟨⟨[120, 49]⟩⟩))), (1, (.const (.string ⟨⟨[61]⟩⟩))), (2, (.const (.string ⟨⟨[45]⟩⟩))), (3, (.const (.string ⟨⟨[50]⟩⟩))), (4, (.const (.string ⟨⟨[59]⟩⟩)))]) none,
  .run (.call ⟨.value (.func 9), #[(.const (.string ⟨⟨[120, 49, 61, 45, 50, 59, 35, 121]⟩⟩)), (.const (.string ⟨⟨[110, 115, 115, 100, 115]⟩⟩)), (.tmp 0)], #[9, 9, 28]⟩) none,
  .run (.buildSlice 28 5 #[(0, (.const (.string ⟨⟨[97]⟩⟩))), (1, (.const (.string ⟨⟨[60, 61]⟩⟩))), (2, (.const (.string ⟨⟨[98]⟩⟩))), (3, (.const (.string ⟨⟨[124, 124]⟩⟩))), (4, (.const (.string ⟨⟨[99]⟩⟩)))]) (some ((.tmp 0), true)),
  .run (.call ⟨.value (.func 9), #[(.const (.string ⟨⟨[97, 60, 61, 98, 124, 124, 99]⟩⟩)), (.const (.string ⟨⟨[110, 115, 110, 115, 110]⟩⟩)), (.tmp 0)], #[9, 9, 28]⟩) (some ((.tmp 1), true)),
  .run (.pick (.tmp 2) (.tmp 0) (.const (.bool false))) none,
  .run (.call ⟨.value (.func 11), #[(.const (.string ⟨⟨[48, 48, 55]⟩⟩)), (.const (.int .i64 0))], #[9, 3]⟩) (some ((.tmp 0), true)),
  .run (.pick (.tmp 1) (.tmp 0) (.const (.bool false))) none,
  .run (.call ⟨.value (.func 11), #[(.const (.string ⟨⟨[49, 120]⟩⟩)), (.const (.int .i64 0))], #[9, 3]⟩) (some ((.tmp 0), true)),
  .run (.pick (.tmp 1) (.tmp 0) (.const (.bool false))) none,
  .run (.call ⟨.value (.func 11), #[(.const (.string ⟨⟨[97, 36]⟩⟩)), (.const (.int .i64 1))], #[9, 3]⟩) (some ((.tmp 0), true)),
  .run (.pick (.tmp 1) (.tmp 0) (.const (.bool false))) none,
  .run (.call ⟨.value (.func 11), #[(.const (.string ⟨⟨[97, 38, 98]⟩⟩)), (.const (.int .i64 1))], #[9, 3]⟩) (some ((.tmp 0), true)),
  .run (.pick (.tmp 1) (.tmp 0) (.const (.bool false))) none,
  .run (.call ⟨.value (.func 13), #[(.const (.string ⟨⟨[120, 49]⟩⟩))], #[9]⟩) (some ((.tmp 0), true)),
  .run (.pick (.tmp 1) (.tmp 0) (.const (.bool false))) none,
  .run (.call ⟨.value (.func 13), #[(.const (.string ⟨⟨[105, 102]⟩⟩))], #[9]⟩) (some ((.tmp 0), true)),
  .run (.unOp .not 4 (.tmp 0)) (some ((.tmp 1), true)),
  .run (.pick (.tmp 2) (.tmp 0) (.const (.bool false))) none] [(0, 0)]) (
.ret))
theorem fn_law01_works : V.F 8 = some Tryd.f8 := by kernel_rfl
theorem is_law01_works : (V.F 8).isSome = true := by rw [fn_law01_works]; rfl
noncomputable def c_law01_works : Code := match Tryd.f8.body with
  | some c => c
  | none => .skip
theorem b_law01_works : Tryd.f8.body = some c_law01_works := rfl
theorem pc_law01_works : pcOf V Tryd.f8.ntmps (some (liveOf Tryd.f8 c_law01_works)) c_law01_works = some P_law01_works := by kernel_rfl
theorem Lc.law01_works {O : Orc} {vs : List Value} {H : AH} {R : Value → AH → Prop} (ho : O 8 vs H = none) (hlen : vs.length ≤ Tryd.f8.ntmps) (hlive : (List.range vs.length).all (isLive (some (liveOf Tryd.f8 c_law01_works))) = true)
    (h : WP V O (some (liveOf Tryd.f8 c_law01_works)) Tryd.f8.ntmps P_law01_works (initL vs 0) H fun e l H' => (e = .normal ∨ e = .ret) ∧ ∃ rs, resL V l H' Tryd.f8.results.toList = some rs ∧ R (resOf rs) H') : ∃ v H', Lc V O 8 vs H v H' ∧ R v H' :=
  Lc.fnP ho fn_law01_works b_law01_works pc_law01_works hlen hlive h

/- bobbin/bobbinlaw01.cut -/
abbrev F_law01_cut : FuncId := 9
def P_law01_cut : PC :=
.seq (
.reg [.run (.assign (.const (.bool false))) none] [(6, 0)]) (
.seq (
.reg [.get 0,
  .run (.call ⟨.value (.func 14), #[(.tmp 0)], #[9]⟩) none,
  .run (.extract (.tmp 0) 0) none,
  .run (.extract (.tmp 1) 1) none,
  .run (.extract (.tmp 2) 2) none] [(9, 0), (8, 1), (7, 2)]) (
.seq (
.seq (
.reg [.get 9,
  .run (.binOp .neq 31 (.tmp 0) (.const (.int .i64 0)) 31) none,
  .run (.move (.tmp (far + 8))) (some ((.tmp 0), false)),
  .run (.binOp .neq 3 (.tmp 0) (.const (.int .i64 0)) 3) (some ((.tmp 1), false)),
  .run (.pick (.tmp 2) (.const (.bool true)) (.tmp 0)) none,
  .run (.move (.tmp (far + 7))) (some ((.tmp 0), false)),
  .run (.call ⟨.builtin .len, #[(.tmp 0)], #[30]⟩) (some ((.tmp 1), false)),
  .run (.move (.tmp (far + 2))) (some ((.tmp 2), false)),
  .run (.call ⟨.builtin .len, #[(.tmp 0)], #[28]⟩) (some ((.tmp 3), false)),
  .run (.binOp .neq 3 (.tmp 2) (.tmp 0) 3) (some ((.tmp 4), false)),
  .run (.pick (.tmp 5) (.const (.bool true)) (.tmp 0)) none,
  .run (.move (.tmp (far + 1))) (some ((.tmp 0), false)),
  .run (.call ⟨.builtin .len, #[(.tmp 0)], #[9]⟩) (some ((.tmp 1), false)),
  .run (.move (.tmp (far + 2))) (some ((.tmp 2), false)),
  .run (.call ⟨.builtin .len, #[(.tmp 0)], #[28]⟩) (some ((.tmp 3), false)),
  .run (.binOp .neq 3 (.tmp 2) (.tmp 0) 3) (some ((.tmp 4), false)),
  .run (.pick (.tmp 5) (.const (.bool true)) (.tmp 0)) none] [(37, 0)]) (
.cond (.tmp 37) (
  .seq (
  .reg [.run (.assign (.const (.bool false))) none] [(6, 0)]) (
  .ret)) (
  .skip))) (
.seq (
.seq (
.reg [.run (.assign (.const (.int .i64 0))) none] [(10, 0)]) (
.block 0 (
 .loop (
  .seq (
  .seq (
  .reg [.get 10,
    .get 7,
    .run (.call ⟨.builtin .len, #[(.tmp 0)], #[30]⟩) none,
    .run (.binOp .lss 3 (.tmp 2) (.tmp 0) 3) none] [(41, 0)]) (
  .cond (.tmp 41) (
    .skip) (
    .exit 0))) (
  .seq (
  .block 1 (
   .seq (
   .reg [.run (.assign (.const (.int .u8 3))) none] [(11, 0)]) (
   .seq (
   .seq (
   .reg [.get 1,
     .get 10,
     .run (.index 9 (.tmp 1) (.tmp 0)) none] [(46, 0)]) (
   .block 2 (
    .seq (
    .reg [.run (.binOp .eql 5 (.tmp (far + 46)) (.const (.int .u8 110)) 5) none] [(47, 0)]) (
    .cond (.tmp 47) (
      .reg [.run (.assign (.const (.int .u8 1))) none] [(11, 0)]) (
      .seq (
      .reg [.run (.binOp .eql 5 (.tmp (far + 46)) (.const (.int .u8 100)) 5) none] [(49, 0)]) (
      .cond (.tmp 49) (
        .reg [.run (.assign (.const (.int .u8 2))) none] [(11, 0)]) (
        .skip))))))) (
   .seq (
   .reg [.get 7,
     .get 10,
     .run (.indexAddr 30 (.tmp 1) (.tmp 0)) none,
     .run (.fieldAddr 36 (.tmp 0) 0) none,
     .run (.load 5 (.tmp 0)) none,
     .get 11,
     .run (.binOp .neq 5 (.tmp 1) (.tmp 0) 5) none,
     .run (.move (.tmp (far + 7))) (some ((.tmp 0), false)),
     .run (.move (.tmp (far + 10))) (some ((.tmp 1), false)),
     .run (.indexAddr 30 (.tmp 1) (.tmp 0)) (some ((.tmp 2), false)),
     .run (.fieldAddr 36 (.tmp 0) 1) (some ((.tmp 3), false)),
     .run (.load 9 (.tmp 0)) (some ((.tmp 4), false)),
     .run (.move (.tmp (far + 2))) (some ((.tmp 5), false)),
     .run (.move (.tmp (far + 10))) (some ((.tmp 6), false)),
     .run (.indexAddr 28 (.tmp 1) (.tmp 0)) (some ((.tmp 7), false)),
     .run (.load 9 (.tmp 0)) (some ((.tmp 8), false)),
     .run (.binOp .neq 9 (.tmp 4) (.tmp 0) 9) (some ((.tmp 9), false)),
     .run (.pick (.tmp 10) (.const (.bool true)) (.tmp 0)) none,
     .run (.move (.tmp (far + 0))) (some ((.tmp 0), false)),
     .run (.move (.tmp (far + 7))) (some ((.tmp 1), false)),
     .run (.move (.tmp (far + 10))) (some ((.tmp 2), false)),
     .run (.indexAddr 30 (.tmp 1) (.tmp 0)) (some ((.tmp 3), false)),
     .run (.fieldAddr 36 (.tmp 0) 2) (some ((.tmp 4), false)),
     .run (.load 3 (.tmp 0)) (some ((.tmp 5), false)),
     .run (.move (.tmp (far + 7))) (some ((.tmp 6), false)),
     .run (.move (.tmp (far + 10))) (some ((.tmp 7), false)),
     .run (.indexAddr 30 (.tmp 1) (.tmp 0)) (some ((.tmp 8), false)),
     .run (.fieldAddr 36 (.tmp 0) 2) (some ((.tmp 9), false)),
     .run (.load 3 (.tmp 0)) (some ((.tmp 10), false)),
     .run (.move (.tmp (far + 2))) (some ((.tmp 11), false)),
     .run (.move (.tmp (far + 10))) (some ((.tmp 12), false)),
     .run (.indexAddr 28 (.tmp 1) (.tmp 0)) (some ((.tmp 13), false)),
     .run (.load 9 (.tmp 0)) (some ((.tmp 14), false)),
     .run (.call ⟨.builtin .len, #[(.tmp 0)], #[9]⟩) (some ((.tmp 15), false)),
     .run (.binOp .add 3 (.tmp 5) (.tmp 0) 3) (some ((.tmp 16), false)),
     .run (.slice 9 (.tmp 16) (some (.tmp 11)) (some (.tmp 0)) none) (some ((.tmp 17), false)),
     .run (.move (.tmp (far + 2))) (some ((.tmp 18), false)),
     .run (.move (.tmp (far + 10))) (some ((.tmp 19), false)),
     .run (.indexAddr 28 (.tmp 1) (.tmp 0)) (some ((.tmp 20), false)),
     .run (.load 9 (.tmp 0)) (some ((.tmp 21), false)),
     .run (.binOp .neq 9 (.tmp 4) (.tmp 0) 9) (some ((.tmp 22), false)),
     .run (.pick (.tmp 23) (.const (.bool true)) (.tmp 0)) none] [(94, 0)]) (
   .cond (.tmp 94) (
     .seq (
     .reg [.run (.assign (.const (.bool false))) none] [(6, 0)]) (
     .ret)) (
     .skip)))))) (
  .reg [.get 10,
    .run (.binOp .add 3 (.tmp 0) (.const (.int .i64 1)) 3) none] [(10, 0)])))))) (
.seq (
.reg [.run (.assign (.const (.bool true))) none] [(6, 0)]) (
.ret)))))
theorem fn_law01_cut : V.F 9 = some Tryd.f9 := by kernel_rfl
theorem is_law01_cut : (V.F 9).isSome = true := by rw [fn_law01_cut]; rfl
noncomputable def c_law01_cut : Code := match Tryd.f9.body with
  | some c => c
  | none => .skip
theorem b_law01_cut : Tryd.f9.body = some c_law01_cut := rfl
theorem pc_law01_cut : pcOf V Tryd.f9.ntmps (some (liveOf Tryd.f9 c_law01_cut)) c_law01_cut = some P_law01_cut := by kernel_rfl
theorem Lc.law01_cut {O : Orc} {vs : List Value} {H : AH} {R : Value → AH → Prop} (ho : O 9 vs H = none) (hlen : vs.length ≤ Tryd.f9.ntmps) (hlive : (List.range vs.length).all (isLive (some (liveOf Tryd.f9 c_law01_cut))) = true)
    (h : WP V O (some (liveOf Tryd.f9 c_law01_cut)) Tryd.f9.ntmps P_law01_cut (initL vs 0) H fun e l H' => (e = .normal ∨ e = .ret) ∧ ∃ rs, resL V l H' Tryd.f9.results.toList = some rs ∧ R (resOf rs) H') : ∃ v H', Lc V O 9 vs H v H' ∧ R v H' :=
  Lc.fnP ho fn_law01_cut b_law01_cut pc_law01_cut hlen hlive h

/- bobbin/bobbinlaw01.many -/
abbrev F_law01_many : FuncId := 10
def P_law01_many : PC :=
.seq (
.reg [.run (.assign (.const (.string ⟨⟨[]⟩⟩))) none] [(4, 0)]) (
.seq (
.reg [.get 0,
  .run (.makeSlice 40 (.tmp 0) (.tmp 0)) none] [(5, 0)]) (
.seq (
.seq (
.reg [.run (.assign (.const (.int .i64 0))) none] [(6, 0)]) (
.block 0 (
 .loop (
  .seq (
  .seq (
  .reg [.get 6,
    .get 0,
    .run (.binOp .lss 3 (.tmp 1) (.tmp 0) 3) none] [(11, 0)]) (
  .cond (.tmp 11) (
    .skip) (
    .exit 0))) (
  .seq (
  .block 1 (
   .reg [.get 5,
     .get 6,
     .get 1,
     .run (.indexAddr 40 (.tmp 2) (.tmp 1)) none,
     .run (.store 5 (.tmp 0) (.tmp 1)) none] [])) (
  .reg [.get 6,
    .run (.binOp .add 3 (.tmp 0) (.const (.int .i64 1)) 3) none] [(6, 0)])))))) (
.seq (
.reg [.get 5,
  .run (.convert 40 9 (.tmp 0)) none] [(4, 0)]) (
.ret))))
theorem fn_law01_many : V.F 10 = some Tryd.f10 := by kernel_rfl
theorem is_law01_many : (V.F 10).isSome = true := by rw [fn_law01_many]; rfl
noncomputable def c_law01_many : Code := match Tryd.f10.body with
  | some c => c
  | none => .skip
theorem b_law01_many : Tryd.f10.body = some c_law01_many := rfl
theorem pc_law01_many : pcOf V Tryd.f10.ntmps (some (liveOf Tryd.f10 c_law01_many)) c_law01_many = some P_law01_many := by kernel_rfl
theorem Lc.law01_many {O : Orc} {vs : List Value} {H : AH} {R : Value → AH → Prop} (ho : O 10 vs H = none) (hlen : vs.length ≤ Tryd.f10.ntmps) (hlive : (List.range vs.length).all (isLive (some (liveOf Tryd.f10 c_law01_many))) = true)
    (h : WP V O (some (liveOf Tryd.f10 c_law01_many)) Tryd.f10.ntmps P_law01_many (initL vs 0) H fun e l H' => (e = .normal ∨ e = .ret) ∧ ∃ rs, resL V l H' Tryd.f10.results.toList = some rs ∧ R (resOf rs) H') : ∃ v H', Lc V O 10 vs H v H' ∧ R v H' :=
  Lc.fnP ho fn_law01_many b_law01_many pc_law01_many hlen hlive h

/- bobbin/bobbinlaw01.bad -/
abbrev F_law01_bad : FuncId := 11
def P_law01_bad : PC :=
.seq (
.reg [.run (.assign (.const (.bool false))) none] [(4, 0)]) (
.seq (
.reg [.get 0,
  .run (.call ⟨.value (.func 14), #[(.tmp 0)], #[9]⟩) none,
  .run (.extract (.tmp 0) 0) none,
  .run (.extract (.tmp 1) 1) none,
  .run (.extract (.tmp 2) 2) none] [(7, 0), (6, 1), (5, 2)]) (
.seq (
.reg [.get 5,
  .run (.call ⟨.builtin .len, #[(.tmp 0)], #[30]⟩) none,
  .run (.binOp .eql 3 (.tmp 0) (.const (.int .i64 0)) 3) none,
  .run (.move (.tmp (far + 6))) (some ((.tmp 0), true)),
  .run (.move (.tmp (far + 1))) (some ((.tmp 1), true)),
  .run (.binOp .eql 3 (.tmp 1) (.tmp 0) 3) (some ((.tmp 2), true)),
  .run (.pick (.tmp 3) (.tmp 0) (.const (.bool false))) none,
  .run (.move (.tmp (far + 7))) (some ((.tmp 0), true)),
  .run (.binOp .eql 31 (.tmp 0) (.const (.int .i64 63)) 31) (some ((.tmp 1), true)),
  .run (.pick (.tmp 2) (.tmp 0) (.const (.bool false))) none] [(4, 0)]) (
.ret)))
theorem fn_law01_bad : V.F 11 = some Tryd.f11 := by kernel_rfl
theorem is_law01_bad : (V.F 11).isSome = true := by rw [fn_law01_bad]; rfl
noncomputable def c_law01_bad : Code := match Tryd.f11.body with
  | some c => c
  | none => .skip
theorem b_law01_bad : Tryd.f11.body = some c_law01_bad := rfl
theorem pc_law01_bad : pcOf V Tryd.f11.ntmps (some (liveOf Tryd.f11 c_law01_bad)) c_law01_bad = some P_law01_bad := by kernel_rfl
theorem Lc.law01_bad {O : Orc} {vs : List Value} {H : AH} {R : Value → AH → Prop} (ho : O 11 vs H = none) (hlen : vs.length ≤ Tryd.f11.ntmps) (hlive : (List.range vs.length).all (isLive (some (liveOf Tryd.f11 c_law01_bad))) = true)
    (h : WP V O (some (liveOf Tryd.f11 c_law01_bad)) Tryd.f11.ntmps P_law01_bad (initL vs 0) H fun e l H' => (e = .normal ∨ e = .ret) ∧ ∃ rs, resL V l H' Tryd.f11.results.toList = some rs ∧ R (resOf rs) H') : ∃ v H', Lc V O 11 vs H v H' ∧ R v H' :=
  Lc.fnP ho fn_law01_bad b_law01_bad pc_law01_bad hlen hlive h

/- bobbin/lex.Reserved -/
abbrev F_lex_Reserved : FuncId := 12
def P_lex_Reserved : PC :=
.seq (
.reg [.run (.assign (.const (.bool false))) none] [(2, 0)]) (
.seq (
.reg [.run (.buildSlice 28 15 #[(0, (.const (.string ⟨⟨[103, 108, 111, 98, 97, 108]⟩⟩))), (1, (.const (.string ⟨⟨[97, 114, 114, 97, 121]⟩⟩))), (2, (.const (.string ⟨⟨[108, 111, 99, 107]⟩⟩))), (3, (.const (.string ⟨⟨[102, 117, 110, 99]⟩⟩))), (4, (.const (.string ⟨⟨[116, 104, 114, 101, 97, 100]⟩⟩))), (5, (.const (.string ⟨⟨[118, 97, 114]⟩⟩))), (6, (.const (.string ⟨⟨[105, 102]⟩⟩))), (7, (.const (.string ⟨⟨[101, 108, 115, 101]⟩⟩))), (8, (.const (.string ⟨⟨[119, 104, 105, 108, 101]⟩⟩))), (9, (.const (.string ⟨⟨[119, 105, 116, 104]⟩⟩))), (10, (.const (.string ⟨⟨[112, 114, 105, 110, 116]⟩⟩))), (11, (.const (.string ⟨⟨[99, 97, 108, 108]⟩⟩))), (12, (.const (.string ⟨⟨[114, 101, 116, 117, 114, 110]⟩⟩))), (13, (.const (.string ⟨⟨[116, 114, 117, 101]⟩⟩))), (14, (.const (.string ⟨⟨[102, 97, 108, 115, 101]⟩⟩)))]) none,
  .get 0,
  .run (.call ⟨.value (.func 20), #[(.tmp 1), (.tmp 0)], #[28, 9]⟩) none] [(2, 0)]) (
.ret))
theorem fn_lex_Reserved : V.F 12 = some Tryd.f12 := by kernel_rfl
theorem is_lex_Reserved : (V.F 12).isSome = true := by rw [fn_lex_Reserved]; rfl
noncomputable def c_lex_Reserved : Code := match Tryd.f12.body with
  | some c => c
  | none => .skip
theorem b_lex_Reserved : Tryd.f12.body = some c_lex_Reserved := rfl
theorem pc_lex_Reserved : pcOf V Tryd.f12.ntmps (some (liveOf Tryd.f12 c_lex_Reserved)) c_lex_Reserved = some P_lex_Reserved := by kernel_rfl
theorem Lc.lex_Reserved {O : Orc} {vs : List Value} {H : AH} {R : Value → AH → Prop} (ho : O 12 vs H = none) (hlen : vs.length ≤ Tryd.f12.ntmps) (hlive : (List.range vs.length).all (isLive (some (liveOf Tryd.f12 c_lex_Reserved))) = true)
    (h : WP V O (some (liveOf Tryd.f12 c_lex_Reserved)) Tryd.f12.ntmps P_lex_Reserved (initL vs 0) H fun e l H' => (e = .normal ∨ e = .ret) ∧ ∃ rs, resL V l H' Tryd.f12.results.toList = some rs ∧ R (resOf rs) H') : ∃ v H', Lc V O 12 vs H v H' ∧ R v H' :=
  Lc.fnP ho fn_lex_Reserved b_lex_Reserved pc_lex_Reserved hlen hlive h

/- bobbin/lex.Name -/
abbrev F_lex_Name : FuncId := 13
def P_lex_Name : PC :=
.seq (
.reg [.run (.assign (.const (.bool false))) none] [(2, 0)]) (
.seq (
.reg [.get 0,
  .run (.call ⟨.builtin .len, #[(.tmp 0)], #[9]⟩) none,
  .run (.binOp .gtr 3 (.tmp 0) (.const (.int .i64 0)) 3) none,
  .run (.move (.tmp (far + 0))) (some ((.tmp 0), true)),
  .run (.call ⟨.builtin .len, #[(.tmp 0)], #[9]⟩) (some ((.tmp 1), true)),
  .run (.binOp .leq 3 (.tmp 0) (.const (.int .i64 32)) 3) (some ((.tmp 2), true)),
  .run (.pick (.tmp 3) (.tmp 0) (.const (.bool false))) none,
  .run (.move (.tmp (far + 0))) (some ((.tmp 0), true)),
  .run (.call ⟨.value (.func 21), #[(.tmp 0)], #[9]⟩) (some ((.tmp 1), true)),
  .run (.move (.tmp (far + 0))) (some ((.tmp 2), true)),
  .run (.call ⟨.builtin .len, #[(.tmp 0)], #[9]⟩) (some ((.tmp 3), true)),
  .run (.binOp .eql 3 (.tmp 2) (.tmp 0) 3) (some ((.tmp 4), true)),
  .run (.pick (.tmp 5) (.tmp 0) (.const (.bool false))) none,
  .run (.move (.tmp (far + 0))) (some ((.tmp 0), true)),
  .run (.call ⟨.value (.func 12), #[(.tmp 0)], #[9]⟩) (some ((.tmp 1), true)),
  .run (.unOp .not 4 (.tmp 0)) (some ((.tmp 2), true)),
  .run (.pick (.tmp 3) (.tmp 0) (.const (.bool false))) none] [(2, 0)]) (
.ret))
theorem fn_lex_Name : V.F 13 = some Tryd.f13 := by kernel_rfl
theorem is_lex_Name : (V.F 13).isSome = true := by rw [fn_lex_Name]; rfl
noncomputable def c_lex_Name : Code := match Tryd.f13.body with
  | some c => c
  | none => .skip
theorem b_lex_Name : Tryd.f13.body = some c_lex_Name := rfl
theorem pc_lex_Name : pcOf V Tryd.f13.ntmps (some (liveOf Tryd.f13 c_lex_Name)) c_lex_Name = some P_lex_Name := by kernel_rfl
theorem Lc.lex_Name {O : Orc} {vs : List Value} {H : AH} {R : Value → AH → Prop} (ho : O 13 vs H = none) (hlen : vs.length ≤ Tryd.f13.ntmps) (hlive : (List.range vs.length).all (isLive (some (liveOf Tryd.f13 c_lex_Name))) = true)
    (h : WP V O (some (liveOf Tryd.f13 c_lex_Name)) Tryd.f13.ntmps P_lex_Name (initL vs 0) H fun e l H' => (e = .normal ∨ e = .ret) ∧ ∃ rs, resL V l H' Tryd.f13.results.toList = some rs ∧ R (resOf rs) H') : ∃ v H', Lc V O 13 vs H v H' ∧ R v H' :=
  Lc.fnP ho fn_lex_Name b_lex_Name pc_lex_Name hlen hlive h

/- bobbin/lex.Tokens -/
abbrev F_lex_Tokens : FuncId := 14
def P_lex_Tokens : PC :=
.seq (
.reg [.run (.assign (.const (.slice none 0 0))) none,
  .run (.assign (.const (.int .i64 0))) none,
  .run (.assign (.const (.int .i64 0))) none] [(4, 0), (3, 1), (2, 2)]) (
.seq (
.seq (
.reg [.get 0,
  .run (.call ⟨.builtin .len, #[(.tmp 0)], #[9]⟩) none,
  .run (.binOp .gtr 3 (.tmp 0) (.const (.int .i64 65536)) 3) none] [(13, 0)]) (
.cond (.tmp 13) (
  .seq (
  .reg [.run (.assign (.const (.slice none 0 0))) none,
    .run (.assign (.const (.int .i64 0))) none,
    .run (.assign (.const (.int .i64 40))) none] [(4, 0), (3, 1), (2, 2)]) (
  .ret)) (
  .skip))) (
.seq (
.reg [.run (.assign (.const (.slice none 0 0))) none] [(5, 0)]) (
.seq (
.seq (
.reg [.run (.assign (.const (.int .i64 0))) none] [(6, 0)]) (
.block 0 (
 .loop (
  .seq (
  .seq (
  .reg [.get 6,
    .get 0,
    .run (.call ⟨.builtin .len, #[(.tmp 0)], #[9]⟩) none,
    .run (.binOp .lss 3 (.tmp 2) (.tmp 0) 3) none] [(17, 0)]) (
  .cond (.tmp 17) (
    .skip) (
    .exit 0))) (
  .block 1 (
   .seq (
   .seq (
   .reg [.get 0,
     .get 6,
     .run (.slice 9 (.tmp 1) (some (.tmp 0)) none none) none,
     .run (.call ⟨.value (.func 22), #[(.tmp 0)], #[9]⟩) none] [(7, 0)]) (
   .seq (
   .reg [.get 7,
     .run (.binOp .gtr 3 (.tmp 0) (.const (.int .i64 0)) 3) none] [(23, 0)]) (
   .cond (.tmp 23) (
     .seq (
     .reg [.get 6,
       .get 7,
       .run (.binOp .add 3 (.tmp 1) (.tmp 0) 3) none] [(6, 0)]) (
     .exit 1)) (
     .skip)))) (
   .seq (
   .reg [.get 0,
     .get 6,
     .run (.slice 9 (.tmp 1) (some (.tmp 0)) none none) none,
     .run (.call ⟨.value (.func 23), #[(.tmp 0)], #[9]⟩) none,
     .run (.extract (.tmp 0) 0) none,
     .run (.extract (.tmp 1) 1) none,
     .run (.extract (.tmp 2) 2) none] [(10, 0), (9, 1), (8, 2)]) (
   .seq (
   .seq (
   .reg [.get 10,
     .run (.unOp .not 4 (.tmp 0)) none] [(36, 0)]) (
   .cond (.tmp 36) (
     .seq (
     .reg [.get 6,
       .run (.assign (.const (.slice none 0 0))) none,
       .run (.assign (.const (.int .i64 63))) none] [(4, 0), (3, 2), (2, 1)]) (
     .ret)) (
     .skip))) (
   .seq (
   .reg [.get 5,
     .get 8,
     .get 0,
     .get 6,
     .get 6,
     .get 9,
     .run (.binOp .add 3 (.tmp 1) (.tmp 0) 3) none,
     .run (.slice 9 (.tmp 4) (some (.tmp 3)) (some (.tmp 0)) none) none,
     .get 6,
     .run (.build 36 #[(0, (.tmp 7)), (1, (.tmp 1)), (2, (.tmp 0))]) none,
     .run (.buildSlice 30 1 #[(0, (.tmp 0))]) none,
     .run (.call ⟨.builtin .append, #[(.tmp 10), (.tmp 0)], #[30, 30]⟩) none] [(5, 0)]) (
   .reg [.get 6,
     .get 9,
     .run (.binOp .add 3 (.tmp 1) (.tmp 0) 3) none] [(6, 0)])))))))))) (
.seq (
.reg [.get 5,
  .run (.assign (.const (.int .i64 0))) none,
  .run (.assign (.const (.int .i64 0))) none] [(4, 0), (3, 1), (2, 2)]) (
.ret)))))
theorem fn_lex_Tokens : V.F 14 = some Tryd.f14 := by kernel_rfl
theorem is_lex_Tokens : (V.F 14).isSome = true := by rw [fn_lex_Tokens]; rfl
noncomputable def c_lex_Tokens : Code := match Tryd.f14.body with
  | some c => c
  | none => .skip
theorem b_lex_Tokens : Tryd.f14.body = some c_lex_Tokens := rfl
theorem pc_lex_Tokens : pcOf V Tryd.f14.ntmps (some (liveOf Tryd.f14 c_lex_Tokens)) c_lex_Tokens = some P_lex_Tokens := by kernel_rfl
theorem Lc.lex_Tokens {O : Orc} {vs : List Value} {H : AH} {R : Value → AH → Prop} (ho : O 14 vs H = none) (hlen : vs.length ≤ Tryd.f14.ntmps) (hlive : (List.range vs.length).all (isLive (some (liveOf Tryd.f14 c_lex_Tokens))) = true)
    (h : WP V O (some (liveOf Tryd.f14 c_lex_Tokens)) Tryd.f14.ntmps P_lex_Tokens (initL vs 0) H fun e l H' => (e = .normal ∨ e = .ret) ∧ ∃ rs, resL V l H' Tryd.f14.results.toList = some rs ∧ R (resOf rs) H') : ∃ v H', Lc V O 14 vs H v H' ∧ R v H' :=
  Lc.fnP ho fn_lex_Tokens b_lex_Tokens pc_lex_Tokens hlen hlive h

/- bobbin/bobbinref01.Tokens -/
abbrev F_ref01_Tokens : FuncId := 15
def P_ref01_Tokens : PC :=
.seq (
.reg [.run (.assign (.const (.slice none 0 0))) none,
  .run (.assign (.const (.int .i64 0))) none,
  .run (.assign (.const (.int .i64 0))) none] [(4, 0), (3, 1), (2, 2)]) (
.seq (
.seq (
.reg [.get 0,
  .run (.call ⟨.builtin .len, #[(.tmp 0)], #[9]⟩) none,
  .run (.binOp .gtr 3 (.tmp 0) (.const (.int .i64 65536)) 3) none] [(14, 0)]) (
.cond (.tmp 14) (
  .seq (
  .reg [.run (.assign (.const (.slice none 0 0))) none,
    .run (.assign (.const (.int .i64 0))) none,
    .run (.assign (.const (.int .i64 40))) none] [(4, 0), (3, 1), (2, 2)]) (
  .ret)) (
  .skip))) (
.seq (
.reg [.run (.assign (.const (.slice none 0 0))) none] [(5, 0)]) (
.seq (
.reg [.run (.assign (.const (.bool false))) none] [(6, 0)]) (
.seq (
.reg [.run (.assign (.const (.int .i64 0))) none] [(7, 0)]) (
.seq (
.block 0 (
 .loop (
  .seq (
  .seq (
  .reg [.get 7,
    .get 0,
    .run (.call ⟨.builtin .len, #[(.tmp 0)], #[9]⟩) none,
    .run (.binOp .lss 3 (.tmp 2) (.tmp 0) 3) none] [(18, 0)]) (
  .cond (.tmp 18) (
    .skip) (
    .exit 0))) (
  .block 1 (
   .seq (
   .reg [.get 0,
     .get 7,
     .run (.index 9 (.tmp 1) (.tmp 0)) none] [(8, 0)]) (
   .seq (
   .seq (
   .reg [.get 6,
     .run (.move (.tmp (far + 8))) (some ((.tmp 0), false)),
     .run (.binOp .eql 5 (.tmp 0) (.const (.int .u8 35)) 5) (some ((.tmp 1), false)),
     .run (.pick (.tmp 2) (.const (.bool true)) (.tmp 0)) none,
     .run (.move (.tmp (far + 8))) (some ((.tmp 0), false)),
     .run (.binOp .eql 5 (.tmp 0) (.const (.int .u8 32)) 5) (some ((.tmp 1), false)),
     .run (.pick (.tmp 2) (.const (.bool true)) (.tmp 0)) none,
     .run (.move (.tmp (far + 8))) (some ((.tmp 0), false)),
     .run (.binOp .eql 5 (.tmp 0) (.const (.int .u8 9)) 5) (some ((.tmp 1), false)),
     .run (.pick (.tmp 2) (.const (.bool true)) (.tmp 0)) none,
     .run (.move (.tmp (far + 8))) (some ((.tmp 0), false)),
     .run (.binOp .eql 5 (.tmp 0) (.const (.int .u8 10)) 5) (some ((.tmp 1), false)),
     .run (.pick (.tmp 2) (.const (.bool true)) (.tmp 0)) none] [(38, 0)]) (
   .cond (.tmp 38) (
     .seq (
     .reg [.get 6,
       .run (.move (.tmp (far + 8))) (some ((.tmp 0), false)),
       .run (.binOp .eql 5 (.tmp 0) (.const (.int .u8 35)) 5) (some ((.tmp 1), false)),
       .run (.pick (.tmp 2) (.const (.bool true)) (.tmp 0)) none,
       .run (.move (.tmp (far + 8))) (some ((.tmp 0), true)),
       .run (.binOp .neq 5 (.tmp 0) (.const (.int .u8 10)) 5) (some ((.tmp 1), true)),
       .run (.pick (.tmp 2) (.tmp 0) (.const (.bool false))) none] [(6, 0)]) (
     .seq (
     .reg [.get 7,
       .run (.binOp .add 3 (.tmp 0) (.const (.int .i64 1)) 3) none] [(7, 0)]) (
     .exit 1))) (
     .skip))) (
   .seq (
   .reg [.get 7,
     .run (.build 36 #[(0, (.const (.int .u8 3))), (2, (.tmp 0))]) none,
     .run (.alloc 36) none,
     .run (.store 36 (.tmp 0) (.tmp 1)) none] [(9, 1)]) (
   .seq (
   .reg [.get 7] [(10, 0)]) (
   .seq (
   .reg [.run (.assign (.const (.bool true))) none] [(11, 0)]) (
   .seq (
   .seq (
   .reg [.get 8,
     .run (.call ⟨.value (.func 24), #[(.tmp 0)], #[5]⟩) none] [(54, 0)]) (
   .cond (.tmp 54) (
     .seq (
     .reg [.run (.fieldAddr 36 (.tmp (far + 9)) 0) none,
       .run (.store 5 (.tmp 0) (.const (.int .u8 1))) none] []) (
     .seq (
     .block 2 (
      .loop (
       .seq (
       .seq (
       .reg [.get 10,
         .get 0,
         .run (.call ⟨.builtin .len, #[(.tmp 0)], #[9]⟩) none,
         .run (.binOp .lss 3 (.tmp 2) (.tmp 0) 3) none,
         .run (.move (.tmp (far + 0))) (some ((.tmp 0), true)),
         .run (.move (.tmp (far + 10))) (some ((.tmp 1), true)),
         .run (.index 9 (.tmp 1) (.tmp 0)) (some ((.tmp 2), true)),
         .run (.call ⟨.value (.func 24), #[(.tmp 0)], #[5]⟩) (some ((.tmp 3), true)),
         .run (.move (.tmp 0)) (some ((.tmp 4), true)),
         .run (.move (.tmp (far + 0))) (some ((.tmp 0), false)),
         .run (.move (.tmp (far + 10))) (some ((.tmp 1), false)),
         .run (.index 9 (.tmp 1) (.tmp 0)) (some ((.tmp 2), false)),
         .run (.call ⟨.value (.func 25), #[(.tmp 0)], #[5]⟩) (some ((.tmp 3), false)),
         .run (.pick (.tmp 4) (.const (.bool true)) (.tmp 0)) (some ((.tmp 9), true)),
         .run (.pick (.tmp 10) (.tmp 0) (.const (.bool false))) none] [(71, 0)]) (
       .cond (.tmp 71) (
         .skip) (
         .exit 2))) (
       .block 3 (
        .reg [.get 10,
          .run (.binOp .add 3 (.tmp 0) (.const (.int .i64 1)) 3) none] [(10, 0)]))))) (
     .reg [.get 10,
       .get 7,
       .run (.binOp .sub 3 (.tmp 1) (.tmp 0) 3) none,
       .run (.binOp .leq 3 (.tmp 0) (.const (.int .i64 32)) 3) none] [(11, 0)]))) (
     .seq (
     .reg [.get 8,
       .run (.call ⟨.value (.func 25), #[(.tmp 0)], #[5]⟩) none] [(79, 0)]) (
     .cond (.tmp 79) (
       .seq (
       .reg [.run (.fieldAddr 36 (.tmp (far + 9)) 0) none,
         .run (.store 5 (.tmp 0) (.const (.int .u8 2))) none] []) (
       .seq (
       .block 4 (
        .loop (
         .seq (
         .seq (
         .reg [.get 10,
           .get 0,
           .run (.call ⟨.builtin .len, #[(.tmp 0)], #[9]⟩) none,
           .run (.binOp .lss 3 (.tmp 2) (.tmp 0) 3) none,
           .run (.move (.tmp (far + 0))) (some ((.tmp 0), true)),
           .run (.move (.tmp (far + 10))) (some ((.tmp 1), true)),
           .run (.index 9 (.tmp 1) (.tmp 0)) (some ((.tmp 2), true)),
           .run (.call ⟨.value (.func 25), #[(.tmp 0)], #[5]⟩) (some ((.tmp 3), true)),
           .run (.pick (.tmp 4) (.tmp 0) (.const (.bool false))) none] [(90, 0)]) (
         .cond (.tmp 90) (
           .skip) (
           .exit 4))) (
         .block 5 (
          .reg [.get 10,
            .run (.binOp .add 3 (.tmp 0) (.const (.int .i64 1)) 3) none] [(10, 0)]))))) (
       .reg [.get 0,
         .get 7,
         .get 10,
         .run (.slice 9 (.tmp 2) (some (.tmp 1)) (some (.tmp 0)) none) none,
         .run (.call ⟨.value (.func 26), #[(.tmp 0)], #[9]⟩) none,
         .run (.move (.tmp (far + 10))) (some ((.tmp 0), true)),
         .run (.move (.tmp (far + 0))) (some ((.tmp 1), true)),
         .run (.call ⟨.builtin .len, #[(.tmp 0)], #[9]⟩) (some ((.tmp 2), true)),
         .run (.binOp .lss 3 (.tmp 2) (.tmp 0) 3) (some ((.tmp 3), true)),
         .run (.move (.tmp 0)) (some ((.tmp 4), true)),
         .run (.move (.tmp (far + 0))) (some ((.tmp 0), true)),
         .run (.move (.tmp (far + 10))) (some ((.tmp 1), true)),
         .run (.index 9 (.tmp 1) (.tmp 0)) (some ((.tmp 2), true)),
         .run (.call ⟨.value (.func 24), #[(.tmp 0)], #[5]⟩) (some ((.tmp 3), true)),
         .run (.pick (.tmp 4) (.tmp 0) (.const (.bool false))) (some ((.tmp 9), true)),
         .run (.unOp .not 4 (.tmp 0)) (some ((.tmp 10), true)),
         .run (.pick (.tmp 11) (.tmp 0) (.const (.bool false))) none] [(11, 0)]))) (
       .seq (
       .reg [.get 7,
         .get 0,
         .get 7,
         .run (.slice 9 (.tmp 1) (some (.tmp 0)) none none) none,
         .run (.call ⟨.value (.func 27), #[(.tmp 0)], #[9]⟩) none,
         .run (.binOp .add 3 (.tmp 4) (.tmp 0) 3) none] [(10, 0)]) (
       .reg [.get 10,
         .get 7,
         .run (.binOp .gtr 3 (.tmp 1) (.tmp 0) 3) none] [(11, 0)])))))) (
   .seq (
   .seq (
   .reg [.get 11,
     .run (.unOp .not 4 (.tmp 0)) none] [(121, 0)]) (
   .cond (.tmp 121) (
     .seq (
     .reg [.get 7,
       .run (.assign (.const (.slice none 0 0))) none,
       .run (.assign (.const (.int .i64 63))) none] [(4, 0), (3, 2), (2, 1)]) (
     .ret)) (
     .skip))) (
   .seq (
   .reg [.get 0,
     .get 7,
     .get 10,
     .run (.slice 9 (.tmp 2) (some (.tmp 1)) (some (.tmp 0)) none) none,
     .run (.fieldAddr 36 (.tmp (far + 9)) 1) none,
     .run (.store 9 (.tmp 0) (.tmp 1)) none] []) (
   .seq (
   .reg [.get 5,
     .run (.load 36 (.tmp (far + 9))) none,
     .run (.buildSlice 30 1 #[(0, (.tmp 0))]) none,
     .run (.call ⟨.builtin .append, #[(.tmp 2), (.tmp 0)], #[30, 30]⟩) none] [(5, 0)]) (
   .reg [.get 10] [(7, 0)])))))))))))))) (
.seq (
.reg [.get 5,
  .run (.assign (.const (.int .i64 0))) none,
  .run (.assign (.const (.int .i64 0))) none] [(4, 0), (3, 1), (2, 2)]) (
.ret)))))))
theorem fn_ref01_Tokens : V.F 15 = some Tryd.f15 := by kernel_rfl
theorem is_ref01_Tokens : (V.F 15).isSome = true := by rw [fn_ref01_Tokens]; rfl
noncomputable def c_ref01_Tokens : Code := match Tryd.f15.body with
  | some c => c
  | none => .skip
theorem b_ref01_Tokens : Tryd.f15.body = some c_ref01_Tokens := rfl
theorem pc_ref01_Tokens : pcOf V Tryd.f15.ntmps (some (liveOf Tryd.f15 c_ref01_Tokens)) c_ref01_Tokens = some P_ref01_Tokens := by kernel_rfl
theorem Lc.ref01_Tokens {O : Orc} {vs : List Value} {H : AH} {R : Value → AH → Prop} (ho : O 15 vs H = none) (hlen : vs.length ≤ Tryd.f15.ntmps) (hlive : (List.range vs.length).all (isLive (some (liveOf Tryd.f15 c_ref01_Tokens))) = true)
    (h : WP V O (some (liveOf Tryd.f15 c_ref01_Tokens)) Tryd.f15.ntmps P_ref01_Tokens (initL vs 0) H fun e l H' => (e = .normal ∨ e = .ret) ∧ ∃ rs, resL V l H' Tryd.f15.results.toList = some rs ∧ R (resOf rs) H') : ∃ v H', Lc V O 15 vs H v H' ∧ R v H' :=
  Lc.fnP ho fn_ref01_Tokens b_ref01_Tokens pc_ref01_Tokens hlen hlive h

/- bobbin/bobbinref01.Same -/
abbrev F_ref01_Same : FuncId := 16
def P_ref01_Same : PC :=
.seq (
.reg [.run (.assign (.const (.bool false))) none] [(4, 0)]) (
.seq (
.seq (
.reg [.get 0,
  .run (.call ⟨.builtin .len, #[(.tmp 0)], #[30]⟩) none,
  .get 1,
  .run (.call ⟨.builtin .len, #[(.tmp 0)], #[30]⟩) none,
  .run (.binOp .neq 3 (.tmp 2) (.tmp 0) 3) none] [(10, 0)]) (
.cond (.tmp 10) (
  .seq (
  .reg [.run (.assign (.const (.bool false))) none] [(4, 0)]) (
  .ret)) (
  .skip))) (
.seq (
.seq (
.reg [.run (.assign (.const (.int .i64 0))) none] [(5, 0)]) (
.block 0 (
 .loop (
  .seq (
  .seq (
  .reg [.get 5,
    .get 0,
    .run (.call ⟨.builtin .len, #[(.tmp 0)], #[30]⟩) none,
    .run (.binOp .lss 3 (.tmp 2) (.tmp 0) 3) none] [(14, 0)]) (
  .cond (.tmp 14) (
    .skip) (
    .exit 0))) (
  .seq (
  .block 1 (
   .seq (
   .reg [.get 0,
     .get 5,
     .run (.indexAddr 30 (.tmp 1) (.tmp 0)) none,
     .run (.load 36 (.tmp 0)) none,
     .get 1,
     .get 5,
     .run (.indexAddr 30 (.tmp 1) (.tmp 0)) none,
     .run (.load 36 (.tmp 0)) none,
     .run (.binOp .neq 36 (.tmp 4) (.tmp 0) 36) none] [(25, 0)]) (
   .cond (.tmp 25) (
     .seq (
     .reg [.run (.assign (.const (.bool false))) none] [(4, 0)]) (
     .ret)) (
     .skip)))) (
  .reg [.get 5,
    .run (.binOp .add 3 (.tmp 0) (.const (.int .i64 1)) 3) none] [(5, 0)])))))) (
.seq (
.reg [.run (.assign (.const (.bool true))) none] [(4, 0)]) (
.ret))))
theorem fn_ref01_Same : V.F 16 = some Tryd.f16 := by kernel_rfl
theorem is_ref01_Same : (V.F 16).isSome = true := by rw [fn_ref01_Same]; rfl
noncomputable def c_ref01_Same : Code := match Tryd.f16.body with
  | some c => c
  | none => .skip
theorem b_ref01_Same : Tryd.f16.body = some c_ref01_Same := rfl
theorem pc_ref01_Same : pcOf V Tryd.f16.ntmps (some (liveOf Tryd.f16 c_ref01_Same)) c_ref01_Same = some P_ref01_Same := by kernel_rfl
theorem Lc.ref01_Same {O : Orc} {vs : List Value} {H : AH} {R : Value → AH → Prop} (ho : O 16 vs H = none) (hlen : vs.length ≤ Tryd.f16.ntmps) (hlive : (List.range vs.length).all (isLive (some (liveOf Tryd.f16 c_ref01_Same))) = true)
    (h : WP V O (some (liveOf Tryd.f16 c_ref01_Same)) Tryd.f16.ntmps P_ref01_Same (initL vs 0) H fun e l H' => (e = .normal ∨ e = .ret) ∧ ∃ rs, resL V l H' Tryd.f16.results.toList = some rs ∧ R (resOf rs) H') : ∃ v H', Lc V O 16 vs H v H' ∧ R v H' :=
  Lc.fnP ho fn_ref01_Same b_ref01_Same pc_ref01_Same hlen hlive h

/- bobbin/bobbinref01.Name -/
abbrev F_ref01_Name : FuncId := 17
def P_ref01_Name : PC :=
.seq (
.reg [.run (.assign (.const (.bool false))) none] [(2, 0)]) (
.seq (
.seq (
.reg [.get 0,
  .run (.call ⟨.builtin .len, #[(.tmp 0)], #[9]⟩) none,
  .run (.binOp .lss 3 (.tmp 0) (.const (.int .i64 1)) 3) none,
  .run (.move (.tmp (far + 0))) (some ((.tmp 0), false)),
  .run (.call ⟨.builtin .len, #[(.tmp 0)], #[9]⟩) (some ((.tmp 1), false)),
  .run (.binOp .gtr 3 (.tmp 0) (.const (.int .i64 32)) 3) (some ((.tmp 2), false)),
  .run (.pick (.tmp 3) (.const (.bool true)) (.tmp 0)) none,
  .run (.move (.tmp (far + 0))) (some ((.tmp 0), false)),
  .run (.index 9 (.tmp 0) (.const (.int .i64 0))) (some ((.tmp 1), false)),
  .run (.call ⟨.value (.func 25), #[(.tmp 0)], #[5]⟩) (some ((.tmp 2), false)),
  .run (.pick (.tmp 3) (.const (.bool true)) (.tmp 0)) none] [(16, 0)]) (
.cond (.tmp 16) (
  .seq (
  .reg [.run (.assign (.const (.bool false))) none] [(2, 0)]) (
  .ret)) (
  .skip))) (
.seq (
.seq (
.reg [.run (.assign (.const (.int .i64 0))) none] [(3, 0)]) (
.block 0 (
 .loop (
  .seq (
  .seq (
  .reg [.get 3,
    .get 0,
    .run (.call ⟨.builtin .len, #[(.tmp 0)], #[9]⟩) none,
    .run (.binOp .lss 3 (.tmp 2) (.tmp 0) 3) none] [(20, 0)]) (
  .cond (.tmp 20) (
    .skip) (
    .exit 0))) (
  .seq (
  .block 1 (
   .seq (
   .reg [.get 0,
     .get 3,
     .run (.index 9 (.tmp 1) (.tmp 0)) none,
     .run (.call ⟨.value (.func 24), #[(.tmp 0)], #[5]⟩) none,
     .run (.unOp .not 4 (.tmp 0)) none,
     .run (.move (.tmp (far + 0))) (some ((.tmp 0), true)),
     .run (.move (.tmp (far + 3))) (some ((.tmp 1), true)),
     .run (.index 9 (.tmp 1) (.tmp 0)) (some ((.tmp 2), true)),
     .run (.call ⟨.value (.func 25), #[(.tmp 0)], #[5]⟩) (some ((.tmp 3), true)),
     .run (.unOp .not 4 (.tmp 0)) (some ((.tmp 4), true)),
     .run (.pick (.tmp 5) (.tmp 0) (.const (.bool false))) none] [(34, 0)]) (
   .cond (.tmp 34) (
     .seq (
     .reg [.run (.assign (.const (.bool false))) none] [(2, 0)]) (
     .ret)) (
     .skip)))) (
  .reg [.get 3,
    .run (.binOp .add 3 (.tmp 0) (.const (.int .i64 1)) 3) none] [(3, 0)])))))) (
.seq (
.reg [.get 0,
  .run (.call ⟨.value (.func 18), #[(.tmp 0)], #[9]⟩) none,
  .run (.unOp .not 4 (.tmp 0)) none] [(2, 0)]) (
.ret))))
theorem fn_ref01_Name : V.F 17 = some Tryd.f17 := by kernel_rfl
theorem is_ref01_Name : (V.F 17).isSome = true := by rw [fn_ref01_Name]; rfl
noncomputable def c_ref01_Name : Code := match Tryd.f17.body with
  | some c => c
  | none => .skip
theorem b_ref01_Name : Tryd.f17.body = some c_ref01_Name := rfl
theorem pc_ref01_Name : pcOf V Tryd.f17.ntmps (some (liveOf Tryd.f17 c_ref01_Name)) c_ref01_Name = some P_ref01_Name := by kernel_rfl
theorem Lc.ref01_Name {O : Orc} {vs : List Value} {H : AH} {R : Value → AH → Prop} (ho : O 17 vs H = none) (hlen : vs.length ≤ Tryd.f17.ntmps) (hlive : (List.range vs.length).all (isLive (some (liveOf Tryd.f17 c_ref01_Name))) = true)
    (h : WP V O (some (liveOf Tryd.f17 c_ref01_Name)) Tryd.f17.ntmps P_ref01_Name (initL vs 0) H fun e l H' => (e = .normal ∨ e = .ret) ∧ ∃ rs, resL V l H' Tryd.f17.results.toList = some rs ∧ R (resOf rs) H') : ∃ v H', Lc V O 17 vs H v H' ∧ R v H' :=
  Lc.fnP ho fn_ref01_Name b_ref01_Name pc_ref01_Name hlen hlive h

/- bobbin/bobbinref01.Reserved -/
abbrev F_ref01_Reserved : FuncId := 18
def P_ref01_Reserved : PC :=
.seq (
.reg [.run (.assign (.const (.bool false))) none] [(2, 0)]) (
.seq (
.reg [.get 0,
  .run (.buildSlice 28 15 #[(0, (.const (.string ⟨⟨[103, 108, 111, 98, 97, 108]⟩⟩))), (1, (.const (.string ⟨⟨[97, 114, 114, 97, 121]⟩⟩))), (2, (.const (.string ⟨⟨[108, 111, 99, 107]⟩⟩))), (3, (.const (.string ⟨⟨[102, 117, 110, 99]⟩⟩))), (4, (.const (.string ⟨⟨[116, 104, 114, 101, 97, 100]⟩⟩))), (5, (.const (.string ⟨⟨[118, 97, 114]⟩⟩))), (6, (.const (.string ⟨⟨[105, 102]⟩⟩))), (7, (.const (.string ⟨⟨[101, 108, 115, 101]⟩⟩))), (8, (.const (.string ⟨⟨[119, 104, 105, 108, 101]⟩⟩))), (9, (.const (.string ⟨⟨[119, 105, 116, 104]⟩⟩))), (10, (.const (.string ⟨⟨[112, 114, 105, 110, 116]⟩⟩))), (11, (.const (.string ⟨⟨[99, 97, 108, 108]⟩⟩))), (12, (.const (.string ⟨⟨[114, 101, 116, 117, 114, 110]⟩⟩))), (13, (.const (.string ⟨⟨[116, 114, 117, 101]⟩⟩))), (14, (.const (.string ⟨⟨[102, 97, 108, 115, 101]⟩⟩)))]) none,
  .run (.call ⟨.value (.func 28), #[(.tmp 1), (.tmp 0)], #[9, 28]⟩) none] [(2, 0)]) (
.ret))
theorem fn_ref01_Reserved : V.F 18 = some Tryd.f18 := by kernel_rfl
theorem is_ref01_Reserved : (V.F 18).isSome = true := by rw [fn_ref01_Reserved]; rfl
noncomputable def c_ref01_Reserved : Code := match Tryd.f18.body with
  | some c => c
  | none => .skip
theorem b_ref01_Reserved : Tryd.f18.body = some c_ref01_Reserved := rfl
theorem pc_ref01_Reserved : pcOf V Tryd.f18.ntmps (some (liveOf Tryd.f18 c_ref01_Reserved)) c_ref01_Reserved = some P_ref01_Reserved := by kernel_rfl
theorem Lc.ref01_Reserved {O : Orc} {vs : List Value} {H : AH} {R : Value → AH → Prop} (ho : O 18 vs H = none) (hlen : vs.length ≤ Tryd.f18.ntmps) (hlive : (List.range vs.length).all (isLive (some (liveOf Tryd.f18 c_ref01_Reserved))) = true)
    (h : WP V O (some (liveOf Tryd.f18 c_ref01_Reserved)) Tryd.f18.ntmps P_ref01_Reserved (initL vs 0) H fun e l H' => (e = .normal ∨ e = .ret) ∧ ∃ rs, resL V l H' Tryd.f18.results.toList = some rs ∧ R (resOf rs) H') : ∃ v H', Lc V O 18 vs H v H' ∧ R v H' :=
  Lc.fnP ho fn_ref01_Reserved b_ref01_Reserved pc_ref01_Reserved hlen hlive h

/- bobbin/bobbinref01.Idle -/
abbrev F_ref01_Idle : FuncId := 19
def P_ref01_Idle : PC :=
.seq (
.reg [.run (.assign (.const (.bool false))) none] [(2, 0)]) (
.seq (
.reg [.run (.assign (.const (.bool false))) none] [(3, 0)]) (
.seq (
.seq (
.reg [.run (.assign (.const (.int .i64 0))) none] [(4, 0)]) (
.block 0 (
 .loop (
  .seq (
  .seq (
  .reg [.get 4,
    .get 0,
    .run (.call ⟨.builtin .len, #[(.tmp 0)], #[9]⟩) none,
    .run (.binOp .lss 3 (.tmp 2) (.tmp 0) 3) none] [(8, 0)]) (
  .cond (.tmp 8) (
    .skip) (
    .exit 0))) (
  .seq (
  .block 1 (
   .seq (
   .reg [.get 3,
     .run (.move (.tmp (far + 0))) (some ((.tmp 0), false)),
     .run (.move (.tmp (far + 4))) (some ((.tmp 1), false)),
     .run (.index 9 (.tmp 1) (.tmp 0)) (some ((.tmp 2), false)),
     .run (.binOp .eql 5 (.tmp 0) (.const (.int .u8 35)) 5) (some ((.tmp 3), false)),
     .run (.pick (.tmp 4) (.const (.bool true)) (.tmp 0)) none,
     .run (.move (.tmp (far + 0))) (some ((.tmp 0), true)),
     .run (.move (.tmp (far + 4))) (some ((.tmp 1), true)),
     .run (.index 9 (.tmp 1) (.tmp 0)) (some ((.tmp 2), true)),
     .run (.binOp .neq 5 (.tmp 0) (.const (.int .u8 10)) 5) (some ((.tmp 3), true)),
     .run (.pick (.tmp 4) (.tmp 0) (.const (.bool false))) none] [(3, 0)]) (
   .seq (
   .reg [.get 3,
     .run (.unOp .not 4 (.tmp 0)) none,
     .run (.move (.tmp (far + 0))) (some ((.tmp 0), true)),
     .run (.move (.tmp (far + 4))) (some ((.tmp 1), true)),
     .run (.index 9 (.tmp 1) (.tmp 0)) (some ((.tmp 2), true)),
     .run (.binOp .neq 5 (.tmp 0) (.const (.int .u8 32)) 5) (some ((.tmp 3), true)),
     .run (.pick (.tmp 4) (.tmp 0) (.const (.bool false))) none,
     .run (.move (.tmp (far + 0))) (some ((.tmp 0), true)),
     .run (.move (.tmp (far + 4))) (some ((.tmp 1), true)),
     .run (.index 9 (.tmp 1) (.tmp 0)) (some ((.tmp 2), true)),
     .run (.binOp .neq 5 (.tmp 0) (.const (.int .u8 9)) 5) (some ((.tmp 3), true)),
     .run (.pick (.tmp 4) (.tmp 0) (.const (.bool false))) none,
     .run (.move (.tmp (far + 0))) (some ((.tmp 0), true)),
     .run (.move (.tmp (far + 4))) (some ((.tmp 1), true)),
     .run (.index 9 (.tmp 1) (.tmp 0)) (some ((.tmp 2), true)),
     .run (.binOp .neq 5 (.tmp 0) (.const (.int .u8 10)) 5) (some ((.tmp 3), true)),
     .run (.pick (.tmp 4) (.tmp 0) (.const (.bool false))) none] [(43, 0)]) (
   .cond (.tmp 43) (
     .seq (
     .reg [.run (.assign (.const (.bool false))) none] [(2, 0)]) (
     .ret)) (
     .skip))))) (
  .reg [.get 4,
    .run (.binOp .add 3 (.tmp 0) (.const (.int .i64 1)) 3) none] [(4, 0)])))))) (
.seq (
.reg [.run (.assign (.const (.bool true))) none] [(2, 0)]) (
.ret))))
theorem fn_ref01_Idle : V.F 19 = some Tryd.f19 := by kernel_rfl
theorem is_ref01_Idle : (V.F 19).isSome = true := by rw [fn_ref01_Idle]; rfl
noncomputable def c_ref01_Idle : Code := match Tryd.f19.body with
  | some c => c
  | none => .skip
theorem b_ref01_Idle : Tryd.f19.body = some c_ref01_Idle := rfl
theorem pc_ref01_Idle : pcOf V Tryd.f19.ntmps (some (liveOf Tryd.f19 c_ref01_Idle)) c_ref01_Idle = some P_ref01_Idle := by kernel_rfl
theorem Lc.ref01_Idle {O : Orc} {vs : List Value} {H : AH} {R : Value → AH → Prop} (ho : O 19 vs H = none) (hlen : vs.length ≤ Tryd.f19.ntmps) (hlive : (List.range vs.length).all (isLive (some (liveOf Tryd.f19 c_ref01_Idle))) = true)
    (h : WP V O (some (liveOf Tryd.f19 c_ref01_Idle)) Tryd.f19.ntmps P_ref01_Idle (initL vs 0) H fun e l H' => (e = .normal ∨ e = .ret) ∧ ∃ rs, resL V l H' Tryd.f19.results.toList = some rs ∧ R (resOf rs) H') : ∃ v H', Lc V O 19 vs H v H' ∧ R v H' :=
  Lc.fnP ho fn_ref01_Idle b_ref01_Idle pc_ref01_Idle hlen hlive h

/- slices.Contains[[]string,string] -/
abbrev F_slices_Contains_s_string_string : FuncId := 20
def P_slices_Contains_s_string_string : PC :=
.seq (
.reg [.run (.assign (.const (.bool false))) none] [(4, 0)]) (
.seq (
.reg [.get 0,
  .get 1,
  .run (.call ⟨.value (.func 29), #[(.tmp 1), (.tmp 0)], #[28, 9]⟩) none,
  .run (.binOp .geq 3 (.tmp 0) (.const (.int .i64 0)) 3) none] [(4, 0)]) (
.ret))
theorem fn_slices_Contains_s_string_string : V.F 20 = some Tryd.f20 := by kernel_rfl
theorem is_slices_Contains_s_string_string : (V.F 20).isSome = true := by rw [fn_slices_Contains_s_string_string]; rfl
noncomputable def c_slices_Contains_s_string_string : Code := match Tryd.f20.body with
  | some c => c
  | none => .skip
theorem b_slices_Contains_s_string_string : Tryd.f20.body = some c_slices_Contains_s_string_string := rfl
theorem pc_slices_Contains_s_string_string : pcOf V Tryd.f20.ntmps (some (liveOf Tryd.f20 c_slices_Contains_s_string_string)) c_slices_Contains_s_string_string = some P_slices_Contains_s_string_string := by kernel_rfl
theorem Lc.slices_Contains_s_string_string {O : Orc} {vs : List Value} {H : AH} {R : Value → AH → Prop} (ho : O 20 vs H = none) (hlen : vs.length ≤ Tryd.f20.ntmps) (hlive : (List.range vs.length).all (isLive (some (liveOf Tryd.f20 c_slices_Contains_s_string_string))) = true)
    (h : WP V O (some (liveOf Tryd.f20 c_slices_Contains_s_string_string)) Tryd.f20.ntmps P_slices_Contains_s_string_string (initL vs 0) H fun e l H' => (e = .normal ∨ e = .ret) ∧ ∃ rs, resL V l H' Tryd.f20.results.toList = some rs ∧ R (resOf rs) H') : ∃ v H', Lc V O 20 vs H v H' ∧ R v H' :=
  Lc.fnP ho fn_slices_Contains_s_string_string b_slices_Contains_s_string_string pc_slices_Contains_s_string_string hlen hlive h

/- bobbin/lex.word -/
abbrev F_lex_word : FuncId := 21
def P_lex_word : PC :=
.seq (
.reg [.run (.assign (.const (.int .i64 0))) none] [(2, 0)]) (
.seq (
.seq (
.reg [.get 0,
  .run (.binOp .eql 9 (.tmp 0) (.const (.string ⟨⟨[]⟩⟩)) 9) none,
  .run (.move (.tmp (far + 0))) (some ((.tmp 0), false)),
  .run (.index 9 (.tmp 0) (.const (.int .i64 0))) (some ((.tmp 1), false)),
  .run (.call ⟨.value (.func 30), #[(.tmp 0)], #[5]⟩) (some ((.tmp 2), false)),
  .run (.unOp .not 4 (.tmp 0)) (some ((.tmp 3), false)),
  .run (.pick (.tmp 4) (.const (.bool true)) (.tmp 0)) none] [(10, 0)]) (
.cond (.tmp 10) (
  .seq (
  .reg [.run (.assign (.const (.int .i64 0))) none] [(2, 0)]) (
  .ret)) (
  .skip))) (
.seq (
.reg [.get 0,
  .run (.call ⟨.value (.func 31), #[(.tmp 0), (.func 32)], #[9, 46]⟩) none] [(2, 0)]) (
.ret)))
theorem fn_lex_word : V.F 21 = some Tryd.f21 := by kernel_rfl
theorem is_lex_word : (V.F 21).isSome = true := by rw [fn_lex_word]; rfl
noncomputable def c_lex_word : Code := match Tryd.f21.body with
  | some c => c
  | none => .skip
theorem b_lex_word : Tryd.f21.body = some c_lex_word := rfl
theorem pc_lex_word : pcOf V Tryd.f21.ntmps (some (liveOf Tryd.f21 c_lex_word)) c_lex_word = some P_lex_word := by kernel_rfl
theorem Lc.lex_word {O : Orc} {vs : List Value} {H : AH} {R : Value → AH → Prop} (ho : O 21 vs H = none) (hlen : vs.length ≤ Tryd.f21.ntmps) (hlive : (List.range vs.length).all (isLive (some (liveOf Tryd.f21 c_lex_word))) = true)
    (h : WP V O (some (liveOf Tryd.f21 c_lex_word)) Tryd.f21.ntmps P_lex_word (initL vs 0) H fun e l H' => (e = .normal ∨ e = .ret) ∧ ∃ rs, resL V l H' Tryd.f21.results.toList = some rs ∧ R (resOf rs) H') : ∃ v H', Lc V O 21 vs H v H' ∧ R v H' :=
  Lc.fnP ho fn_lex_word b_lex_word pc_lex_word hlen hlive h

/- bobbin/lex.blank -/
abbrev F_lex_blank : FuncId := 22
def P_lex_blank : PC :=
.seq (
.reg [.run (.assign (.const (.int .i64 0))) none] [(2, 0)]) (
.seq (
.seq (
.reg [.get 0,
  .run (.index 9 (.tmp 0) (.const (.int .i64 0))) none,
  .run (.binOp .eql 5 (.tmp 0) (.const (.int .u8 35)) 5) none] [(5, 0)]) (
.cond (.tmp 5) (
  .seq (
  .reg [.get 0,
    .run (.call ⟨.value (.func 31), #[(.tmp 0), (.func 34)], #[9, 46]⟩) none] [(2, 0)]) (
  .ret)) (
  .skip))) (
.seq (
.reg [.get 0,
  .run (.call ⟨.value (.func 31), #[(.tmp 0), (.func 35)], #[9, 46]⟩) none] [(2, 0)]) (
.ret)))
theorem fn_lex_blank : V.F 22 = some Tryd.f22 := by kernel_rfl
theorem is_lex_blank : (V.F 22).isSome = true := by rw [fn_lex_blank]; rfl
noncomputable def c_lex_blank : Code := match Tryd.f22.body with
  | some c => c
  | none => .skip
theorem b_lex_blank : Tryd.f22.body = some c_lex_blank := rfl
theorem pc_lex_blank : pcOf V Tryd.f22.ntmps (some (liveOf Tryd.f22 c_lex_blank)) c_lex_blank = some P_lex_blank := by kernel_rfl
theorem Lc.lex_blank {O : Orc} {vs : List Value} {H : AH} {R : Value → AH → Prop} (ho : O 22 vs H = none) (hlen : vs.length ≤ Tryd.f22.ntmps) (hlive : (List.range vs.length).all (isLive (some (liveOf Tryd.f22 c_lex_blank))) = true)
    (h : WP V O (some (liveOf Tryd.f22 c_lex_blank)) Tryd.f22.ntmps P_lex_blank (initL vs 0) H fun e l H' => (e = .normal ∨ e = .ret) ∧ ∃ rs, resL V l H' Tryd.f22.results.toList = some rs ∧ R (resOf rs) H') : ∃ v H', Lc V O 22 vs H v H' ∧ R v H' :=
  Lc.fnP ho fn_lex_blank b_lex_blank pc_lex_blank hlen hlive h

/- bobbin/lex.token -/
abbrev F_lex_token : FuncId := 23
def P_lex_token : PC :=
.seq (
.reg [.run (.box 9 (.tmp (far + 0))) none,
  .run (.assign (.const (.int .u8 0))) none,
  .run (.assign (.const (.int .i64 0))) none,
  .run (.assign (.const (.bool false))) none] [(4, 0), (3, 1), (2, 2), (1, 3)]) (
.seq (
.seq (
.reg [.run (.load 9 (.tmp (far + 1))) none,
  .run (.call ⟨.value (.func 21), #[(.tmp 0)], #[9]⟩) none] [(5, 0)]) (
.seq (
.reg [.get 5,
  .run (.binOp .gtr 3 (.tmp 0) (.const (.int .i64 0)) 3) none] [(11, 0)]) (
.cond (.tmp 11) (
  .seq (
  .reg [.get 5,
    .get 5,
    .run (.binOp .leq 3 (.tmp 0) (.const (.int .i64 32)) 3) none,
    .run (.assign (.const (.int .u8 1))) none] [(4, 1), (3, 3), (2, 0)]) (
  .ret)) (
  .skip)))) (
.seq (
.seq (
.reg [.run (.load 9 (.tmp (far + 1))) none,
  .run (.call ⟨.value (.func 31), #[(.tmp 0), (.func 33)], #[9, 46]⟩) none] [(6, 0)]) (
.seq (
.reg [.get 6,
  .run (.binOp .gtr 3 (.tmp 0) (.const (.int .i64 0)) 3) none] [(18, 0)]) (
.cond (.tmp 18) (
  .seq (
  .reg [.get 6,
    .run (.load 9 (.tmp (far + 1))) none,
    .get 6,
    .run (.slice 9 (.tmp 1) none (some (.tmp 0)) none) none,
    .run (.call ⟨.value (.func 36), #[(.tmp 0)], #[9]⟩) none,
    .run (.move (.tmp (far + 6))) (some ((.tmp 0), true)),
    .run (.load 9 (.tmp (far + 1))) (some ((.tmp 1), true)),
    .run (.call ⟨.builtin .len, #[(.tmp 0)], #[9]⟩) (some ((.tmp 2), true)),
    .run (.binOp .eql 3 (.tmp 2) (.tmp 0) 3) (some ((.tmp 3), true)),
    .run (.move (.tmp 0)) (some ((.tmp 4), true)),
    .run (.load 9 (.tmp (far + 1))) (some ((.tmp 0), false)),
    .run (.move (.tmp (far + 6))) (some ((.tmp 1), false)),
    .run (.index 9 (.tmp 1) (.tmp 0)) (some ((.tmp 2), false)),
    .run (.call ⟨.value (.func 30), #[(.tmp 0)], #[5]⟩) (some ((.tmp 3), false)),
    .run (.unOp .not 4 (.tmp 0)) (some ((.tmp 4), false)),
    .run (.pick (.tmp 5) (.const (.bool true)) (.tmp 0)) (some ((.tmp 10), true)),
    .run (.pick (.tmp 11) (.tmp 0) (.const (.bool false))) none,
    .run (.assign (.const (.int .u8 2))) none] [(4, 1), (3, 17), (2, 0)]) (
  .ret)) (
  .skip)))) (
.seq (
.reg [.run (.slice 51 (.global 0) none none none) none,
  .run (.makeFunc (.func 38) #[] #[(.tmp (far + 1))]) none,
  .run (.call ⟨.value (.func 37), #[(.tmp 1), (.tmp 0)], #[28, 29]⟩) none] [(7, 0)]) (
.seq (
.seq (
.reg [.get 7,
  .run (.binOp .lss 3 (.tmp 0) (.const (.int .i64 0)) 3) none] [(41, 0)]) (
.cond (.tmp 41) (
  .seq (
  .reg [.run (.assign (.const (.int .u8 0))) none,
    .run (.assign (.const (.int .i64 0))) none,
    .run (.assign (.const (.bool false))) none] [(4, 0), (3, 1), (2, 2)]) (
  .ret)) (
  .skip))) (
.seq (
.reg [.get 7,
  .run (.indexAddr 51 (.global 0) (.tmp 0)) none,
  .run (.load 9 (.tmp 0)) none,
  .run (.call ⟨.builtin .len, #[(.tmp 0)], #[9]⟩) none,
  .run (.assign (.const (.int .u8 3))) none,
  .run (.assign (.const (.bool true))) none] [(4, 0), (3, 2), (2, 1)]) (
.ret))))))
theorem fn_lex_token : V.F 23 = some Tryd.f23 := by kernel_rfl
theorem is_lex_token : (V.F 23).isSome = true := by rw [fn_lex_token]; rfl
noncomputable def c_lex_token : Code := match Tryd.f23.body with
  | some c => c
  | none => .skip
theorem b_lex_token : Tryd.f23.body = some c_lex_token := rfl
theorem pc_lex_token : pcOf V Tryd.f23.ntmps (some (liveOf Tryd.f23 c_lex_token)) c_lex_token = some P_lex_token := by kernel_rfl
theorem Lc.lex_token {O : Orc} {vs : List Value} {H : AH} {R : Value → AH → Prop} (ho : O 23 vs H = none) (hlen : vs.length ≤ Tryd.f23.ntmps) (hlive : (List.range vs.length).all (isLive (some (liveOf Tryd.f23 c_lex_token))) = true)
    (h : WP V O (some (liveOf Tryd.f23 c_lex_token)) Tryd.f23.ntmps P_lex_token (initL vs 0) H fun e l H' => (e = .normal ∨ e = .ret) ∧ ∃ rs, resL V l H' Tryd.f23.results.toList = some rs ∧ R (resOf rs) H') : ∃ v H', Lc V O 23 vs H v H' ∧ R v H' :=
  Lc.fnP ho fn_lex_token b_lex_token pc_lex_token hlen hlive h

/- bobbin/bobbinref01.letter -/
abbrev F_ref01_letter : FuncId := 24
def P_ref01_letter : PC :=
.seq (
.reg [.run (.assign (.const (.bool false))) none] [(2, 0)]) (
.seq (
.reg [.get 0,
  .run (.binOp .geq 5 (.tmp 0) (.const (.int .u8 97)) 5) none,
  .run (.move (.tmp (far + 0))) (some ((.tmp 0), true)),
  .run (.binOp .leq 5 (.tmp 0) (.const (.int .u8 122)) 5) (some ((.tmp 1), true)),
  .run (.pick (.tmp 2) (.tmp 0) (.const (.bool false))) none,
  .run (.move (.tmp (far + 0))) (some ((.tmp 0), false)),
  .run (.binOp .geq 5 (.tmp 0) (.const (.int .u8 65)) 5) (some ((.tmp 1), false)),
  .run (.move (.tmp 0)) (some ((.tmp 2), false)),
  .run (.move (.tmp (far + 0))) (some ((.tmp 0), true)),
  .run (.binOp .leq 5 (.tmp 0) (.const (.int .u8 90)) 5) (some ((.tmp 1), true)),
  .run (.pick (.tmp 2) (.tmp 0) (.const (.bool false))) (some ((.tmp 5), false)),
  .run (.pick (.tmp 6) (.const (.bool true)) (.tmp 0)) none,
  .run (.move (.tmp (far + 0))) (some ((.tmp 0), false)),
  .run (.binOp .eql 5 (.tmp 0) (.const (.int .u8 95)) 5) (some ((.tmp 1), false)),
  .run (.pick (.tmp 2) (.const (.bool true)) (.tmp 0)) none] [(2, 0)]) (
.ret))
theorem fn_ref01_letter : V.F 24 = some Tryd.f24 := by kernel_rfl
theorem is_ref01_letter : (V.F 24).isSome = true := by rw [fn_ref01_letter]; rfl
noncomputable def c_ref01_letter : Code := match Tryd.f24.body with
  | some c => c
  | none => .skip
theorem b_ref01_letter : Tryd.f24.body = some c_ref01_letter := rfl
theorem pc_ref01_letter : pcOf V Tryd.f24.ntmps (some (liveOf Tryd.f24 c_ref01_letter)) c_ref01_letter = some P_ref01_letter := by kernel_rfl
theorem Lc.ref01_letter {O : Orc} {vs : List Value} {H : AH} {R : Value → AH → Prop} (ho : O 24 vs H = none) (hlen : vs.length ≤ Tryd.f24.ntmps) (hlive : (List.range vs.length).all (isLive (some (liveOf Tryd.f24 c_ref01_letter))) = true)
    (h : WP V O (some (liveOf Tryd.f24 c_ref01_letter)) Tryd.f24.ntmps P_ref01_letter (initL vs 0) H fun e l H' => (e = .normal ∨ e = .ret) ∧ ∃ rs, resL V l H' Tryd.f24.results.toList = some rs ∧ R (resOf rs) H') : ∃ v H', Lc V O 24 vs H v H' ∧ R v H' :=
  Lc.fnP ho fn_ref01_letter b_ref01_letter pc_ref01_letter hlen hlive h

/- bobbin/bobbinref01.digit -/
abbrev F_ref01_digit : FuncId := 25
def P_ref01_digit : PC :=
.seq (
.reg [.run (.assign (.const (.bool false))) none] [(2, 0)]) (
.seq (
.reg [.get 0,
  .run (.binOp .geq 5 (.tmp 0) (.const (.int .u8 48)) 5) none,
  .run (.move (.tmp (far + 0))) (some ((.tmp 0), true)),
  .run (.binOp .leq 5 (.tmp 0) (.const (.int .u8 57)) 5) (some ((.tmp 1), true)),
  .run (.pick (.tmp 2) (.tmp 0) (.const (.bool false))) none] [(2, 0)]) (
.ret))
theorem fn_ref01_digit : V.F 25 = some Tryd.f25 := by kernel_rfl
theorem is_ref01_digit : (V.F 25).isSome = true := by rw [fn_ref01_digit]; rfl
noncomputable def c_ref01_digit : Code := match Tryd.f25.body with
  | some c => c
  | none => .skip
theorem b_ref01_digit : Tryd.f25.body = some c_ref01_digit := rfl
theorem pc_ref01_digit : pcOf V Tryd.f25.ntmps (some (liveOf Tryd.f25 c_ref01_digit)) c_ref01_digit = some P_ref01_digit := by kernel_rfl
theorem Lc.ref01_digit {O : Orc} {vs : List Value} {H : AH} {R : Value → AH → Prop} (ho : O 25 vs H = none) (hlen : vs.length ≤ Tryd.f25.ntmps) (hlive : (List.range vs.length).all (isLive (some (liveOf Tryd.f25 c_ref01_digit))) = true)
    (h : WP V O (some (liveOf Tryd.f25 c_ref01_digit)) Tryd.f25.ntmps P_ref01_digit (initL vs 0) H fun e l H' => (e = .normal ∨ e = .ret) ∧ ∃ rs, resL V l H' Tryd.f25.results.toList = some rs ∧ R (resOf rs) H') : ∃ v H', Lc V O 25 vs H v H' ∧ R v H' :=
  Lc.fnP ho fn_ref01_digit b_ref01_digit pc_ref01_digit hlen hlive h

/- bobbin/bobbinref01.number -/
abbrev F_ref01_number : FuncId := 26
def P_ref01_number : PC :=
.seq (
.reg [.run (.assign (.const (.bool false))) none] [(2, 0)]) (
.seq (
.seq (
.reg [.get 0,
  .run (.call ⟨.builtin .len, #[(.tmp 0)], #[9]⟩) none,
  .run (.binOp .gtr 3 (.tmp 0) (.const (.int .i64 19)) 3) none,
  .run (.move (.tmp (far + 0))) (some ((.tmp 0), false)),
  .run (.call ⟨.builtin .len, #[(.tmp 0)], #[9]⟩) (some ((.tmp 1), false)),
  .run (.binOp .gtr 3 (.tmp 0) (.const (.int .i64 1)) 3) (some ((.tmp 2), false)),
  .run (.move (.tmp 0)) (some ((.tmp 3), false)),
  .run (.move (.tmp (far + 0))) (some ((.tmp 0), true)),
  .run (.index 9 (.tmp 0) (.const (.int .i64 0))) (some ((.tmp 1), true)),
  .run (.binOp .eql 5 (.tmp 0) (.const (.int .u8 48)) 5) (some ((.tmp 2), true)),
  .run (.pick (.tmp 3) (.tmp 0) (.const (.bool false))) (some ((.tmp 7), false)),
  .run (.pick (.tmp 8) (.const (.bool true)) (.tmp 0)) none] [(17, 0)]) (
.cond (.tmp 17) (
  .seq (
  .reg [.run (.assign (.const (.bool false))) none] [(2, 0)]) (
  .ret)) (
  .skip))) (
.seq (
.reg [.run (.assign (.const (.int .u64 0))) none] [(3, 0)]) (
.seq (
.seq (
.reg [.run (.assign (.const (.int .i64 0))) none] [(4, 0)]) (
.block 0 (
 .loop (
  .seq (
  .seq (
  .reg [.get 4,
    .get 0,
    .run (.call ⟨.builtin .len, #[(.tmp 0)], #[9]⟩) none,
    .run (.binOp .lss 3 (.tmp 2) (.tmp 0) 3) none] [(21, 0)]) (
  .cond (.tmp 21) (
    .skip) (
    .exit 0))) (
  .seq (
  .block 1 (
   .reg [.get 3,
     .run (.binOp .mul 52 (.tmp 0) (.const (.int .u64 10)) 52) none,
     .get 0,
     .get 4,
     .run (.index 9 (.tmp 1) (.tmp 0)) none,
     .run (.binOp .sub 5 (.tmp 0) (.const (.int .u8 48)) 5) none,
     .run (.convert 5 52 (.tmp 0)) none,
     .run (.binOp .add 52 (.tmp 5) (.tmp 0) 52) none] [(3, 0)])) (
  .reg [.get 4,
    .run (.binOp .add 3 (.tmp 0) (.const (.int .i64 1)) 3) none] [(4, 0)])))))) (
.seq (
.reg [.get 3,
  .run (.binOp .leq 52 (.tmp 0) (.const (.int .u64 9223372036854775808)) 52) none] [(2, 0)]) (
.ret)))))
theorem fn_ref01_number : V.F 26 = some Tryd.f26 := by kernel_rfl
theorem is_ref01_number : (V.F 26).isSome = true := by rw [fn_ref01_number]; rfl
noncomputable def c_ref01_number : Code := match Tryd.f26.body with
  | some c => c
  | none => .skip
theorem b_ref01_number : Tryd.f26.body = some c_ref01_number := rfl
theorem pc_ref01_number : pcOf V Tryd.f26.ntmps (some (liveOf Tryd.f26 c_ref01_number)) c_ref01_number = some P_ref01_number := by kernel_rfl
theorem Lc.ref01_number {O : Orc} {vs : List Value} {H : AH} {R : Value → AH → Prop} (ho : O 26 vs H = none) (hlen : vs.length ≤ Tryd.f26.ntmps) (hlive : (List.range vs.length).all (isLive (some (liveOf Tryd.f26 c_ref01_number))) = true)
    (h : WP V O (some (liveOf Tryd.f26 c_ref01_number)) Tryd.f26.ntmps P_ref01_number (initL vs 0) H fun e l H' => (e = .normal ∨ e = .ret) ∧ ∃ rs, resL V l H' Tryd.f26.results.toList = some rs ∧ R (resOf rs) H') : ∃ v H', Lc V O 26 vs H v H' ∧ R v H' :=
  Lc.fnP ho fn_ref01_number b_ref01_number pc_ref01_number hlen hlive h

/- bobbin/bobbinref01.sign -/
abbrev F_ref01_sign : FuncId := 27
def P_ref01_sign : PC :=
.seq (
.reg [.run (.assign (.const (.int .i64 0))) none] [(2, 0)]) (
.seq (
.seq (
.reg [.get 0,
  .run (.call ⟨.builtin .len, #[(.tmp 0)], #[9]⟩) none,
  .run (.binOp .gtr 3 (.tmp 0) (.const (.int .i64 1)) 3) none,
  .run (.move (.tmp (far + 0))) (some ((.tmp 0), true)),
  .run (.slice 9 (.tmp 0) none (some (.const (.int .i64 2))) none) (some ((.tmp 1), true)),
  .run (.buildSlice 28 6 #[(0, (.const (.string ⟨⟨[124, 124]⟩⟩))), (1, (.const (.string ⟨⟨[38, 38]⟩⟩))), (2, (.const (.string ⟨⟨[60, 61]⟩⟩))), (3, (.const (.string ⟨⟨[62, 61]⟩⟩))), (4, (.const (.string ⟨⟨[61, 61]⟩⟩))), (5, (.const (.string ⟨⟨[33, 61]⟩⟩)))]) (some ((.tmp 2), true)),
  .run (.call ⟨.value (.func 28), #[(.tmp 1), (.tmp 0)], #[9, 28]⟩) (some ((.tmp 3), true)),
  .run (.pick (.tmp 4) (.tmp 0) (.const (.bool false))) none] [(11, 0)]) (
.cond (.tmp 11) (
  .seq (
  .reg [.run (.assign (.const (.int .i64 2))) none] [(2, 0)]) (
  .ret)) (
  .skip))) (
.seq (
.seq (
.reg [.get 0,
  .run (.slice 9 (.tmp 0) none (some (.const (.int .i64 1))) none) none,
  .run (.buildSlice 28 17 #[(0, (.const (.string ⟨⟨[60]⟩⟩))), (1, (.const (.string ⟨⟨[62]⟩⟩))), (2, (.const (.string ⟨⟨[61]⟩⟩))), (3, (.const (.string ⟨⟨[43]⟩⟩))), (4, (.const (.string ⟨⟨[45]⟩⟩))), (5, (.const (.string ⟨⟨[42]⟩⟩))), (6, (.const (.string ⟨⟨[47]⟩⟩))), (7, (.const (.string ⟨⟨[37]⟩⟩))), (8, (.const (.string ⟨⟨[33]⟩⟩))), (9, (.const (.string ⟨⟨[40]⟩⟩))), (10, (.const (.string ⟨⟨[41]⟩⟩))), (11, (.const (.string ⟨⟨[123]⟩⟩))), (12, (.const (.string ⟨⟨[125]⟩⟩))), (13, (.const (.string ⟨⟨[91]⟩⟩))), (14, (.const (.string ⟨⟨[93]⟩⟩))), (15, (.const (.string ⟨⟨[59]⟩⟩))), (16, (.const (.string ⟨⟨[44]⟩⟩)))]) none,
  .run (.call ⟨.value (.func 28), #[(.tmp 1), (.tmp 0)], #[9, 28]⟩) none] [(15, 0)]) (
.cond (.tmp 15) (
  .seq (
  .reg [.run (.assign (.const (.int .i64 1))) none] [(2, 0)]) (
  .ret)) (
  .skip))) (
.seq (
.reg [.run (.assign (.const (.int .i64 0))) none] [(2, 0)]) (
.ret))))
theorem fn_ref01_sign : V.F 27 = some Tryd.f27 := by kernel_rfl
theorem is_ref01_sign : (V.F 27).isSome = true := by rw [fn_ref01_sign]; rfl
noncomputable def c_ref01_sign : Code := match Tryd.f27.body with
  | some c => c
  | none => .skip
theorem b_ref01_sign : Tryd.f27.body = some c_ref01_sign := rfl
theorem pc_ref01_sign : pcOf V Tryd.f27.ntmps (some (liveOf Tryd.f27 c_ref01_sign)) c_ref01_sign = some P_ref01_sign := by kernel_rfl
theorem Lc.ref01_sign {O : Orc} {vs : List Value} {H : AH} {R : Value → AH → Prop} (ho : O 27 vs H = none) (hlen : vs.length ≤ Tryd.f27.ntmps) (hlive : (List.range vs.length).all (isLive (some (liveOf Tryd.f27 c_ref01_sign))) = true)
    (h : WP V O (some (liveOf Tryd.f27 c_ref01_sign)) Tryd.f27.ntmps P_ref01_sign (initL vs 0) H fun e l H' => (e = .normal ∨ e = .ret) ∧ ∃ rs, resL V l H' Tryd.f27.results.toList = some rs ∧ R (resOf rs) H') : ∃ v H', Lc V O 27 vs H v H' ∧ R v H' :=
  Lc.fnP ho fn_ref01_sign b_ref01_sign pc_ref01_sign hlen hlive h

/- bobbin/bobbinref01.among -/
abbrev F_ref01_among : FuncId := 28
def P_ref01_among : PC :=
.seq (
.reg [.run (.assign (.const (.bool false))) none] [(4, 0)]) (
.seq (
.seq (
.reg [.run (.assign (.const (.int .i64 0))) none] [(5, 0)]) (
.block 0 (
 .loop (
  .seq (
  .seq (
  .reg [.get 5,
    .get 1,
    .run (.call ⟨.builtin .len, #[(.tmp 0)], #[28]⟩) none,
    .run (.binOp .lss 3 (.tmp 2) (.tmp 0) 3) none] [(9, 0)]) (
  .cond (.tmp 9) (
    .skip) (
    .exit 0))) (
  .seq (
  .block 1 (
   .seq (
   .reg [.get 1,
     .get 5,
     .run (.indexAddr 28 (.tmp 1) (.tmp 0)) none,
     .run (.load 9 (.tmp 0)) none,
     .get 0,
     .run (.binOp .eql 9 (.tmp 1) (.tmp 0) 9) none] [(17, 0)]) (
   .cond (.tmp 17) (
     .seq (
     .reg [.run (.assign (.const (.bool true))) none] [(4, 0)]) (
     .ret)) (
     .skip)))) (
  .reg [.get 5,
    .run (.binOp .add 3 (.tmp 0) (.const (.int .i64 1)) 3) none] [(5, 0)])))))) (
.seq (
.reg [.run (.assign (.const (.bool false))) none] [(4, 0)]) (
.ret)))
theorem fn_ref01_among : V.F 28 = some Tryd.f28 := by kernel_rfl
theorem is_ref01_among : (V.F 28).isSome = true := by rw [fn_ref01_among]; rfl
noncomputable def c_ref01_among : Code := match Tryd.f28.body with
  | some c => c
  | none => .skip
theorem b_ref01_among : Tryd.f28.body = some c_ref01_among := rfl
theorem pc_ref01_among : pcOf V Tryd.f28.ntmps (some (liveOf Tryd.f28 c_ref01_among)) c_ref01_among = some P_ref01_among := by kernel_rfl
theorem Lc.ref01_among {O : Orc} {vs : List Value} {H : AH} {R : Value → AH → Prop} (ho : O 28 vs H = none) (hlen : vs.length ≤ Tryd.f28.ntmps) (hlive : (List.range vs.length).all (isLive (some (liveOf Tryd.f28 c_ref01_among))) = true)
    (h : WP V O (some (liveOf Tryd.f28 c_ref01_among)) Tryd.f28.ntmps P_ref01_among (initL vs 0) H fun e l H' => (e = .normal ∨ e = .ret) ∧ ∃ rs, resL V l H' Tryd.f28.results.toList = some rs ∧ R (resOf rs) H') : ∃ v H', Lc V O 28 vs H v H' ∧ R v H' :=
  Lc.fnP ho fn_ref01_among b_ref01_among pc_ref01_among hlen hlive h

/- slices.Index[[]string,string] -/
abbrev F_slices_Index_s_string_string : FuncId := 29
def P_slices_Index_s_string_string : PC :=
.seq (
.reg [.run (.assign (.const (.int .i64 0))) none] [(4, 0)]) (
.seq (
.seq (
.reg [.get 0,
  .run (.call ⟨.builtin .len, #[(.tmp 0)], #[28]⟩) none,
  .run (.move (.const (.int .i64 0))) none] [(8, 0), (7, 1)]) (
.block 0 (
 .loop (
  .seq (
  .reg [.run (.binOp .lss 3 (.tmp (far + 8)) (.tmp (far + 7)) 3) none] [(9, 0)]) (
  .seq (
  .cond (.tmp 9) (
    .skip) (
    .exit 0)) (
  .seq (
  .block 1 (
   .seq (
   .reg [.get 8] [(5, 0)]) (
   .seq (
   .reg [.get 1,
     .get 0,
     .get 5,
     .run (.indexAddr 28 (.tmp 1) (.tmp 0)) none,
     .run (.load 9 (.tmp 0)) none,
     .run (.binOp .eql 9 (.tmp 4) (.tmp 0) 9) none] [(16, 0)]) (
   .cond (.tmp 16) (
     .seq (
     .reg [.get 5] [(4, 0)]) (
     .ret)) (
     .skip))))) (
  .reg [.run (.binOp .add 3 (.tmp (far + 8)) (.const (.int .i64 1)) 3) none] [(8, 0)]))))))) (
.seq (
.reg [.run (.assign (.const (.int .i64 (-1)))) none] [(4, 0)]) (
.ret)))
theorem fn_slices_Index_s_string_string : V.F 29 = some Tryd.f29 := by kernel_rfl
theorem is_slices_Index_s_string_string : (V.F 29).isSome = true := by rw [fn_slices_Index_s_string_string]; rfl
noncomputable def c_slices_Index_s_string_string : Code := match Tryd.f29.body with
  | some c => c
  | none => .skip
theorem b_slices_Index_s_string_string : Tryd.f29.body = some c_slices_Index_s_string_string := rfl
theorem pc_slices_Index_s_string_string : pcOf V Tryd.f29.ntmps (some (liveOf Tryd.f29 c_slices_Index_s_string_string)) c_slices_Index_s_string_string = some P_slices_Index_s_string_string := by kernel_rfl
theorem Lc.slices_Index_s_string_string {O : Orc} {vs : List Value} {H : AH} {R : Value → AH → Prop} (ho : O 29 vs H = none) (hlen : vs.length ≤ Tryd.f29.ntmps) (hlive : (List.range vs.length).all (isLive (some (liveOf Tryd.f29 c_slices_Index_s_string_string))) = true)
    (h : WP V O (some (liveOf Tryd.f29 c_slices_Index_s_string_string)) Tryd.f29.ntmps P_slices_Index_s_string_string (initL vs 0) H fun e l H' => (e = .normal ∨ e = .ret) ∧ ∃ rs, resL V l H' Tryd.f29.results.toList = some rs ∧ R (resOf rs) H') : ∃ v H', Lc V O 29 vs H v H' ∧ R v H' :=
  Lc.fnP ho fn_slices_Index_s_string_string b_slices_Index_s_string_string pc_slices_Index_s_string_string hlen hlive h

/- bobbin/lex.letter -/
abbrev F_lex_letter : FuncId := 30
def P_lex_letter : PC :=
.seq (
.reg [.run (.assign (.const (.bool false))) none] [(2, 0)]) (
.seq (
.reg [.get 0,
  .run (.binOp .geq 5 (.tmp 0) (.const (.int .u8 97)) 5) none,
  .run (.move (.tmp (far + 0))) (some ((.tmp 0), true)),
  .run (.binOp .leq 5 (.tmp 0) (.const (.int .u8 122)) 5) (some ((.tmp 1), true)),
  .run (.pick (.tmp 2) (.tmp 0) (.const (.bool false))) none,
  .run (.move (.tmp (far + 0))) (some ((.tmp 0), false)),
  .run (.binOp .geq 5 (.tmp 0) (.const (.int .u8 65)) 5) (some ((.tmp 1), false)),
  .run (.move (.tmp 0)) (some ((.tmp 2), false)),
  .run (.move (.tmp (far + 0))) (some ((.tmp 0), true)),
  .run (.binOp .leq 5 (.tmp 0) (.const (.int .u8 90)) 5) (some ((.tmp 1), true)),
  .run (.pick (.tmp 2) (.tmp 0) (.const (.bool false))) (some ((.tmp 5), false)),
  .run (.pick (.tmp 6) (.const (.bool true)) (.tmp 0)) none,
  .run (.move (.tmp (far + 0))) (some ((.tmp 0), false)),
  .run (.binOp .eql 5 (.tmp 0) (.const (.int .u8 95)) 5) (some ((.tmp 1), false)),
  .run (.pick (.tmp 2) (.const (.bool true)) (.tmp 0)) none] [(2, 0)]) (
.ret))
theorem fn_lex_letter : V.F 30 = some Tryd.f30 := by kernel_rfl
theorem is_lex_letter : (V.F 30).isSome = true := by rw [fn_lex_letter]; rfl
noncomputable def c_lex_letter : Code := match Tryd.f30.body with
  | some c => c
  | none => .skip
theorem b_lex_letter : Tryd.f30.body = some c_lex_letter := rfl
theorem pc_lex_letter : pcOf V Tryd.f30.ntmps (some (liveOf Tryd.f30 c_lex_letter)) c_lex_letter = some P_lex_letter := by kernel_rfl
theorem Lc.lex_letter {O : Orc} {vs : List Value} {H : AH} {R : Value → AH → Prop} (ho : O 30 vs H = none) (hlen : vs.length ≤ Tryd.f30.ntmps) (hlive : (List.range vs.length).all (isLive (some (liveOf Tryd.f30 c_lex_letter))) = true)
    (h : WP V O (some (liveOf Tryd.f30 c_lex_letter)) Tryd.f30.ntmps P_lex_letter (initL vs 0) H fun e l H' => (e = .normal ∨ e = .ret) ∧ ∃ rs, resL V l H' Tryd.f30.results.toList = some rs ∧ R (resOf rs) H') : ∃ v H', Lc V O 30 vs H v H' ∧ R v H' :=
  Lc.fnP ho fn_lex_letter b_lex_letter pc_lex_letter hlen hlive h

/- bobbin/lex.run -/
abbrev F_lex_run : FuncId := 31
def P_lex_run : PC :=
.seq (
.reg [.run (.assign (.const (.int .i64 0))) none] [(4, 0)]) (
.seq (
.reg [.run (.assign (.const (.int .i64 0))) none] [(5, 0)]) (
.seq (
.block 0 (
 .loop (
  .seq (
  .seq (
  .reg [.get 5,
    .get 0,
    .run (.call ⟨.builtin .len, #[(.tmp 0)], #[9]⟩) none,
    .run (.binOp .lss 3 (.tmp 2) (.tmp 0) 3) none,
    .run (.move (.tmp (far + 1))) (some ((.tmp 0), true)),
    .run (.move (.tmp (far + 0))) (some ((.tmp 1), true)),
    .run (.move (.tmp (far + 5))) (some ((.tmp 2), true)),
    .run (.index 9 (.tmp 1) (.tmp 0)) (some ((.tmp 3), true)),
    .run (.call ⟨.value (.tmp 3), #[(.tmp 0)], #[5]⟩) (some ((.tmp 4), true)),
    .run (.pick (.tmp 5) (.tmp 0) (.const (.bool false))) none] [(16, 0)]) (
  .cond (.tmp 16) (
    .skip) (
    .exit 0))) (
  .block 1 (
   .reg [.get 5,
     .run (.binOp .add 3 (.tmp 0) (.const (.int .i64 1)) 3) none] [(5, 0)]))))) (
.seq (
.reg [.get 5] [(4, 0)]) (
.ret))))
theorem fn_lex_run : V.F 31 = some Tryd.f31 := by kernel_rfl
theorem is_lex_run : (V.F 31).isSome = true := by rw [fn_lex_run]; rfl
noncomputable def c_lex_run : Code := match Tryd.f31.body with
  | some c => c
  | none => .skip
theorem b_lex_run : Tryd.f31.body = some c_lex_run := rfl
theorem pc_lex_run : pcOf V Tryd.f31.ntmps (some (liveOf Tryd.f31 c_lex_run)) c_lex_run = some P_lex_run := by kernel_rfl
theorem Lc.lex_run {O : Orc} {vs : List Value} {H : AH} {R : Value → AH → Prop} (ho : O 31 vs H = none) (hlen : vs.length ≤ Tryd.f31.ntmps) (hlive : (List.range vs.length).all (isLive (some (liveOf Tryd.f31 c_lex_run))) = true)
    (h : WP V O (some (liveOf Tryd.f31 c_lex_run)) Tryd.f31.ntmps P_lex_run (initL vs 0) H fun e l H' => (e = .normal ∨ e = .ret) ∧ ∃ rs, resL V l H' Tryd.f31.results.toList = some rs ∧ R (resOf rs) H') : ∃ v H', Lc V O 31 vs H v H' ∧ R v H' :=
  Lc.fnP ho fn_lex_run b_lex_run pc_lex_run hlen hlive h

/- bobbin/lex.word$1 -/
abbrev F_lex_word_q1 : FuncId := 32
def P_lex_word_q1 : PC :=
.seq (
.reg [.run (.assign (.const (.bool false))) none] [(2, 0)]) (
.seq (
.reg [.get 0,
  .run (.call ⟨.value (.func 30), #[(.tmp 0)], #[5]⟩) none,
  .run (.move (.tmp (far + 0))) (some ((.tmp 0), false)),
  .run (.call ⟨.value (.func 33), #[(.tmp 0)], #[5]⟩) (some ((.tmp 1), false)),
  .run (.pick (.tmp 2) (.const (.bool true)) (.tmp 0)) none] [(2, 0)]) (
.ret))
theorem fn_lex_word_q1 : V.F 32 = some Tryd.f32 := by kernel_rfl
theorem is_lex_word_q1 : (V.F 32).isSome = true := by rw [fn_lex_word_q1]; rfl
noncomputable def c_lex_word_q1 : Code := match Tryd.f32.body with
  | some c => c
  | none => .skip
theorem b_lex_word_q1 : Tryd.f32.body = some c_lex_word_q1 := rfl
theorem pc_lex_word_q1 : pcOf V Tryd.f32.ntmps (some (liveOf Tryd.f32 c_lex_word_q1)) c_lex_word_q1 = some P_lex_word_q1 := by kernel_rfl
theorem Lc.lex_word_q1 {O : Orc} {vs : List Value} {H : AH} {R : Value → AH → Prop} (ho : O 32 vs H = none) (hlen : vs.length ≤ Tryd.f32.ntmps) (hlive : (List.range vs.length).all (isLive (some (liveOf Tryd.f32 c_lex_word_q1))) = true)
    (h : WP V O (some (liveOf Tryd.f32 c_lex_word_q1)) Tryd.f32.ntmps P_lex_word_q1 (initL vs 0) H fun e l H' => (e = .normal ∨ e = .ret) ∧ ∃ rs, resL V l H' Tryd.f32.results.toList = some rs ∧ R (resOf rs) H') : ∃ v H', Lc V O 32 vs H v H' ∧ R v H' :=
  Lc.fnP ho fn_lex_word_q1 b_lex_word_q1 pc_lex_word_q1 hlen hlive h

/- bobbin/lex.digit -/
abbrev F_lex_digit : FuncId := 33
def P_lex_digit : PC :=
.seq (
.reg [.run (.assign (.const (.bool false))) none] [(2, 0)]) (
.seq (
.reg [.get 0,
  .run (.binOp .geq 5 (.tmp 0) (.const (.int .u8 48)) 5) none,
  .run (.move (.tmp (far + 0))) (some ((.tmp 0), true)),
  .run (.binOp .leq 5 (.tmp 0) (.const (.int .u8 57)) 5) (some ((.tmp 1), true)),
  .run (.pick (.tmp 2) (.tmp 0) (.const (.bool false))) none] [(2, 0)]) (
.ret))
theorem fn_lex_digit : V.F 33 = some Tryd.f33 := by kernel_rfl
theorem is_lex_digit : (V.F 33).isSome = true := by rw [fn_lex_digit]; rfl
noncomputable def c_lex_digit : Code := match Tryd.f33.body with
  | some c => c
  | none => .skip
theorem b_lex_digit : Tryd.f33.body = some c_lex_digit := rfl
theorem pc_lex_digit : pcOf V Tryd.f33.ntmps (some (liveOf Tryd.f33 c_lex_digit)) c_lex_digit = some P_lex_digit := by kernel_rfl
theorem Lc.lex_digit {O : Orc} {vs : List Value} {H : AH} {R : Value → AH → Prop} (ho : O 33 vs H = none) (hlen : vs.length ≤ Tryd.f33.ntmps) (hlive : (List.range vs.length).all (isLive (some (liveOf Tryd.f33 c_lex_digit))) = true)
    (h : WP V O (some (liveOf Tryd.f33 c_lex_digit)) Tryd.f33.ntmps P_lex_digit (initL vs 0) H fun e l H' => (e = .normal ∨ e = .ret) ∧ ∃ rs, resL V l H' Tryd.f33.results.toList = some rs ∧ R (resOf rs) H') : ∃ v H', Lc V O 33 vs H v H' ∧ R v H' :=
  Lc.fnP ho fn_lex_digit b_lex_digit pc_lex_digit hlen hlive h

/- bobbin/lex.blank$1 -/
abbrev F_lex_blank_q1 : FuncId := 34
def P_lex_blank_q1 : PC :=
.seq (
.reg [.run (.assign (.const (.bool false))) none] [(2, 0)]) (
.seq (
.reg [.get 0,
  .run (.binOp .neq 5 (.tmp 0) (.const (.int .u8 10)) 5) none] [(2, 0)]) (
.ret))
theorem fn_lex_blank_q1 : V.F 34 = some Tryd.f34 := by kernel_rfl
theorem is_lex_blank_q1 : (V.F 34).isSome = true := by rw [fn_lex_blank_q1]; rfl
noncomputable def c_lex_blank_q1 : Code := match Tryd.f34.body with
  | some c => c
  | none => .skip
theorem b_lex_blank_q1 : Tryd.f34.body = some c_lex_blank_q1 := rfl
theorem pc_lex_blank_q1 : pcOf V Tryd.f34.ntmps (some (liveOf Tryd.f34 c_lex_blank_q1)) c_lex_blank_q1 = some P_lex_blank_q1 := by kernel_rfl
theorem Lc.lex_blank_q1 {O : Orc} {vs : List Value} {H : AH} {R : Value → AH → Prop} (ho : O 34 vs H = none) (hlen : vs.length ≤ Tryd.f34.ntmps) (hlive : (List.range vs.length).all (isLive (some (liveOf Tryd.f34 c_lex_blank_q1))) = true)
    (h : WP V O (some (liveOf Tryd.f34 c_lex_blank_q1)) Tryd.f34.ntmps P_lex_blank_q1 (initL vs 0) H fun e l H' => (e = .normal ∨ e = .ret) ∧ ∃ rs, resL V l H' Tryd.f34.results.toList = some rs ∧ R (resOf rs) H') : ∃ v H', Lc V O 34 vs H v H' ∧ R v H' :=
  Lc.fnP ho fn_lex_blank_q1 b_lex_blank_q1 pc_lex_blank_q1 hlen hlive h

/- bobbin/lex.blank$2 -/
abbrev F_lex_blank_q2 : FuncId := 35
def P_lex_blank_q2 : PC :=
.seq (
.reg [.run (.assign (.const (.bool false))) none] [(2, 0)]) (
.seq (
.reg [.get 0,
  .run (.binOp .eql 5 (.tmp 0) (.const (.int .u8 32)) 5) none,
  .run (.move (.tmp (far + 0))) (some ((.tmp 0), false)),
  .run (.binOp .eql 5 (.tmp 0) (.const (.int .u8 9)) 5) (some ((.tmp 1), false)),
  .run (.pick (.tmp 2) (.const (.bool true)) (.tmp 0)) none,
  .run (.move (.tmp (far + 0))) (some ((.tmp 0), false)),
  .run (.binOp .eql 5 (.tmp 0) (.const (.int .u8 10)) 5) (some ((.tmp 1), false)),
  .run (.pick (.tmp 2) (.const (.bool true)) (.tmp 0)) none] [(2, 0)]) (
.ret))
theorem fn_lex_blank_q2 : V.F 35 = some Tryd.f35 := by kernel_rfl
theorem is_lex_blank_q2 : (V.F 35).isSome = true := by rw [fn_lex_blank_q2]; rfl
noncomputable def c_lex_blank_q2 : Code := match Tryd.f35.body with
  | some c => c
  | none => .skip
theorem b_lex_blank_q2 : Tryd.f35.body = some c_lex_blank_q2 := rfl
theorem pc_lex_blank_q2 : pcOf V Tryd.f35.ntmps (some (liveOf Tryd.f35 c_lex_blank_q2)) c_lex_blank_q2 = some P_lex_blank_q2 := by kernel_rfl
theorem Lc.lex_blank_q2 {O : Orc} {vs : List Value} {H : AH} {R : Value → AH → Prop} (ho : O 35 vs H = none) (hlen : vs.length ≤ Tryd.f35.ntmps) (hlive : (List.range vs.length).all (isLive (some (liveOf Tryd.f35 c_lex_blank_q2))) = true)
    (h : WP V O (some (liveOf Tryd.f35 c_lex_blank_q2)) Tryd.f35.ntmps P_lex_blank_q2 (initL vs 0) H fun e l H' => (e = .normal ∨ e = .ret) ∧ ∃ rs, resL V l H' Tryd.f35.results.toList = some rs ∧ R (resOf rs) H') : ∃ v H', Lc V O 35 vs H v H' ∧ R v H' :=
  Lc.fnP ho fn_lex_blank_q2 b_lex_blank_q2 pc_lex_blank_q2 hlen hlive h

/- bobbin/lex.number -/
abbrev F_lex_number : FuncId := 36
def P_lex_number : PC :=
.seq (
.reg [.run (.assign (.const (.bool false))) none] [(2, 0)]) (
.seq (
.reg [.get 0,
  .run (.binOp .eql 9 (.tmp 0) (.const (.string ⟨⟨[48]⟩⟩)) 9) none,
  .run (.move (.tmp (far + 0))) (some ((.tmp 0), false)),
  .run (.index 9 (.tmp 0) (.const (.int .i64 0))) (some ((.tmp 1), false)),
  .run (.binOp .neq 5 (.tmp 0) (.const (.int .u8 48)) 5) (some ((.tmp 2), false)),
  .run (.pick (.tmp 3) (.const (.bool true)) (.tmp 0)) none,
  .run (.move (.tmp (far + 0))) (some ((.tmp 0), true)),
  .run (.call ⟨.builtin .len, #[(.tmp 0)], #[9]⟩) (some ((.tmp 1), true)),
  .run (.binOp .lss 3 (.tmp 0) (.const (.int .i64 19)) 3) (some ((.tmp 2), true)),
  .run (.move (.tmp 0)) (some ((.tmp 3), true)),
  .run (.move (.tmp (far + 0))) (some ((.tmp 0), false)),
  .run (.call ⟨.builtin .len, #[(.tmp 0)], #[9]⟩) (some ((.tmp 1), false)),
  .run (.binOp .eql 3 (.tmp 0) (.const (.int .i64 19)) 3) (some ((.tmp 2), false)),
  .run (.move (.tmp 0)) (some ((.tmp 3), false)),
  .run (.move (.tmp (far + 0))) (some ((.tmp 0), true)),
  .run (.binOp .leq 9 (.tmp 0) (.const (.string ⟨⟨[57, 50, 50, 51, 51, 55, 50, 48, 51, 54, 56, 53, 52, 55, 55, 53, 56, 48, 56]⟩⟩)) 9) (some ((.tmp 1), true)),
  .run (.pick (.tmp 2) (.tmp 0) (.const (.bool false))) (some ((.tmp 6), false)),
  .run (.pick (.tmp 7) (.const (.bool true)) (.tmp 0)) (some ((.tmp 11), true)),
  .run (.pick (.tmp 12) (.tmp 0) (.const (.bool false))) none] [(2, 0)]) (
.ret))
theorem fn_lex_number : V.F 36 = some Tryd.f36 := by kernel_rfl
theorem is_lex_number : (V.F 36).isSome = true := by rw [fn_lex_number]; rfl
noncomputable def c_lex_number : Code := match Tryd.f36.body with
  | some c => c
  | none => .skip
theorem b_lex_number : Tryd.f36.body = some c_lex_number := rfl
theorem pc_lex_number : pcOf V Tryd.f36.ntmps (some (liveOf Tryd.f36 c_lex_number)) c_lex_number = some P_lex_number := by kernel_rfl
theorem Lc.lex_number {O : Orc} {vs : List Value} {H : AH} {R : Value → AH → Prop} (ho : O 36 vs H = none) (hlen : vs.length ≤ Tryd.f36.ntmps) (hlive : (List.range vs.length).all (isLive (some (liveOf Tryd.f36 c_lex_number))) = true)
    (h : WP V O (some (liveOf Tryd.f36 c_lex_number)) Tryd.f36.ntmps P_lex_number (initL vs 0) H fun e l H' => (e = .normal ∨ e = .ret) ∧ ∃ rs, resL V l H' Tryd.f36.results.toList = some rs ∧ R (resOf rs) H') : ∃ v H', Lc V O 36 vs H v H' ∧ R v H' :=
  Lc.fnP ho fn_lex_number b_lex_number pc_lex_number hlen hlive h

/- slices.IndexFunc[[]string,string] -/
abbrev F_slices_IndexFunc_s_string_string : FuncId := 37
def P_slices_IndexFunc_s_string_string : PC :=
.seq (
.reg [.run (.assign (.const (.int .i64 0))) none] [(4, 0)]) (
.seq (
.seq (
.reg [.get 0,
  .run (.call ⟨.builtin .len, #[(.tmp 0)], #[28]⟩) none,
  .run (.move (.const (.int .i64 0))) none] [(8, 0), (7, 1)]) (
.block 0 (
 .loop (
  .seq (
  .reg [.run (.binOp .lss 3 (.tmp (far + 8)) (.tmp (far + 7)) 3) none] [(9, 0)]) (
  .seq (
  .cond (.tmp 9) (
    .skip) (
    .exit 0)) (
  .seq (
  .block 1 (
   .seq (
   .reg [.get 8] [(5, 0)]) (
   .seq (
   .reg [.get 1,
     .get 0,
     .get 5,
     .run (.indexAddr 28 (.tmp 1) (.tmp 0)) none,
     .run (.load 9 (.tmp 0)) none,
     .run (.call ⟨.value (.tmp 4), #[(.tmp 0)], #[9]⟩) none] [(16, 0)]) (
   .cond (.tmp 16) (
     .seq (
     .reg [.get 5] [(4, 0)]) (
     .ret)) (
     .skip))))) (
  .reg [.run (.binOp .add 3 (.tmp (far + 8)) (.const (.int .i64 1)) 3) none] [(8, 0)]))))))) (
.seq (
.reg [.run (.assign (.const (.int .i64 (-1)))) none] [(4, 0)]) (
.ret)))
theorem fn_slices_IndexFunc_s_string_string : V.F 37 = some Tryd.f37 := by kernel_rfl
theorem is_slices_IndexFunc_s_string_string : (V.F 37).isSome = true := by rw [fn_slices_IndexFunc_s_string_string]; rfl
noncomputable def c_slices_IndexFunc_s_string_string : Code := match Tryd.f37.body with
  | some c => c
  | none => .skip
theorem b_slices_IndexFunc_s_string_string : Tryd.f37.body = some c_slices_IndexFunc_s_string_string := rfl
theorem pc_slices_IndexFunc_s_string_string : pcOf V Tryd.f37.ntmps (some (liveOf Tryd.f37 c_slices_IndexFunc_s_string_string)) c_slices_IndexFunc_s_string_string = some P_slices_IndexFunc_s_string_string := by kernel_rfl
theorem Lc.slices_IndexFunc_s_string_string {O : Orc} {vs : List Value} {H : AH} {R : Value → AH → Prop} (ho : O 37 vs H = none) (hlen : vs.length ≤ Tryd.f37.ntmps) (hlive : (List.range vs.length).all (isLive (some (liveOf Tryd.f37 c_slices_IndexFunc_s_string_string))) = true)
    (h : WP V O (some (liveOf Tryd.f37 c_slices_IndexFunc_s_string_string)) Tryd.f37.ntmps P_slices_IndexFunc_s_string_string (initL vs 0) H fun e l H' => (e = .normal ∨ e = .ret) ∧ ∃ rs, resL V l H' Tryd.f37.results.toList = some rs ∧ R (resOf rs) H') : ∃ v H', Lc V O 37 vs H v H' ∧ R v H' :=
  Lc.fnP ho fn_slices_IndexFunc_s_string_string b_slices_IndexFunc_s_string_string pc_slices_IndexFunc_s_string_string hlen hlive h

/- bobbin/lex.token$1 -/
abbrev F_lex_token_q1 : FuncId := 38
def P_lex_token_q1 : PC :=
.seq (
.reg [.run (.assign (.const (.bool false))) none] [(3, 0)]) (
.seq (
.reg [.run (.load 9 (.tmp (far + 1))) none,
  .get 0,
  .run (.call ⟨.value (.func 39), #[(.tmp 1), (.tmp 0)], #[9, 9]⟩) none] [(3, 0)]) (
.ret))
theorem fn_lex_token_q1 : V.F 38 = some Tryd.f38 := by kernel_rfl
theorem is_lex_token_q1 : (V.F 38).isSome = true := by rw [fn_lex_token_q1]; rfl
noncomputable def c_lex_token_q1 : Code := match Tryd.f38.body with
  | some c => c
  | none => .skip
theorem b_lex_token_q1 : Tryd.f38.body = some c_lex_token_q1 := rfl
theorem pc_lex_token_q1 : pcOf V Tryd.f38.ntmps (some (liveOf Tryd.f38 c_lex_token_q1)) c_lex_token_q1 = some P_lex_token_q1 := by kernel_rfl
theorem Lc.lex_token_q1 {O : Orc} {vs : List Value} {H : AH} {R : Value → AH → Prop} (ho : O 38 vs H = none) (hlen : vs.length ≤ Tryd.f38.ntmps) (hlive : (List.range vs.length).all (isLive (some (liveOf Tryd.f38 c_lex_token_q1))) = true)
    (h : WP V O (some (liveOf Tryd.f38 c_lex_token_q1)) Tryd.f38.ntmps P_lex_token_q1 (initL vs 0) H fun e l H' => (e = .normal ∨ e = .ret) ∧ ∃ rs, resL V l H' Tryd.f38.results.toList = some rs ∧ R (resOf rs) H') : ∃ v H', Lc V O 38 vs H v H' ∧ R v H' :=
  Lc.fnP ho fn_lex_token_q1 b_lex_token_q1 pc_lex_token_q1 hlen hlive h

/- strings.HasPrefix -/
abbrev F_strings_HasPrefix : FuncId := 39
def P_strings_HasPrefix : PC :=
.seq (
.reg [.run (.assign (.const (.bool false))) none] [(4, 0)]) (
.seq (
.reg [.get 0,
  .get 1,
  .run (.call ⟨.value (.func 40), #[(.tmp 1), (.tmp 0)], #[9, 9]⟩) none] [(4, 0)]) (
.ret))
theorem fn_strings_HasPrefix : V.F 39 = some Tryd.f39 := by kernel_rfl
theorem is_strings_HasPrefix : (V.F 39).isSome = true := by rw [fn_strings_HasPrefix]; rfl
noncomputable def c_strings_HasPrefix : Code := match Tryd.f39.body with
  | some c => c
  | none => .skip
theorem b_strings_HasPrefix : Tryd.f39.body = some c_strings_HasPrefix := rfl
theorem pc_strings_HasPrefix : pcOf V Tryd.f39.ntmps (some (liveOf Tryd.f39 c_strings_HasPrefix)) c_strings_HasPrefix = some P_strings_HasPrefix := by kernel_rfl
theorem Lc.strings_HasPrefix {O : Orc} {vs : List Value} {H : AH} {R : Value → AH → Prop} (ho : O 39 vs H = none) (hlen : vs.length ≤ Tryd.f39.ntmps) (hlive : (List.range vs.length).all (isLive (some (liveOf Tryd.f39 c_strings_HasPrefix))) = true)
    (h : WP V O (some (liveOf Tryd.f39 c_strings_HasPrefix)) Tryd.f39.ntmps P_strings_HasPrefix (initL vs 0) H fun e l H' => (e = .normal ∨ e = .ret) ∧ ∃ rs, resL V l H' Tryd.f39.results.toList = some rs ∧ R (resOf rs) H') : ∃ v H', Lc V O 39 vs H v H' ∧ R v H' :=
  Lc.fnP ho fn_strings_HasPrefix b_strings_HasPrefix pc_strings_HasPrefix hlen hlive h

/- internal/stringslite.HasPrefix -/
abbrev F_internal_stringslite_HasPrefix : FuncId := 40
def P_internal_stringslite_HasPrefix : PC :=
.seq (
.reg [.run (.assign (.const (.bool false))) none] [(4, 0)]) (
.seq (
.reg [.get 0,
  .run (.call ⟨.builtin .len, #[(.tmp 0)], #[9]⟩) none,
  .get 1,
  .run (.call ⟨.builtin .len, #[(.tmp 0)], #[9]⟩) none,
  .run (.binOp .geq 3 (.tmp 2) (.tmp 0) 3) none,
  .run (.move (.tmp (far + 0))) (some ((.tmp 0), true)),
  .run (.move (.tmp (far + 1))) (some ((.tmp 1), true)),
  .run (.call ⟨.builtin .len, #[(.tmp 0)], #[9]⟩) (some ((.tmp 2), true)),
  .run (.slice 9 (.tmp 2) none (some (.tmp 0)) none) (some ((.tmp 3), true)),
  .run (.move (.tmp (far + 1))) (some ((.tmp 4), true)),
  .run (.binOp .eql 9 (.tmp 1) (.tmp 0) 9) (some ((.tmp 5), true)),
  .run (.pick (.tmp 6) (.tmp 0) (.const (.bool false))) none] [(4, 0)]) (
.ret))
theorem fn_internal_stringslite_HasPrefix : V.F 40 = some Tryd.f40 := by kernel_rfl
theorem is_internal_stringslite_HasPrefix : (V.F 40).isSome = true := by rw [fn_internal_stringslite_HasPrefix]; rfl
noncomputable def c_internal_stringslite_HasPrefix : Code := match Tryd.f40.body with
  | some c => c
  | none => .skip
theorem b_internal_stringslite_HasPrefix : Tryd.f40.body = some c_internal_stringslite_HasPrefix := rfl
theorem pc_internal_stringslite_HasPrefix : pcOf V Tryd.f40.ntmps (some (liveOf Tryd.f40 c_internal_stringslite_HasPrefix)) c_internal_stringslite_HasPrefix = some P_internal_stringslite_HasPrefix := by kernel_rfl
theorem Lc.internal_stringslite_HasPrefix {O : Orc} {vs : List Value} {H : AH} {R : Value → AH → Prop} (ho : O 40 vs H = none) (hlen : vs.length ≤ Tryd.f40.ntmps) (hlive : (List.range vs.length).all (isLive (some (liveOf Tryd.f40 c_internal_stringslite_HasPrefix))) = true)
    (h : WP V O (some (liveOf Tryd.f40 c_internal_stringslite_HasPrefix)) Tryd.f40.ntmps P_internal_stringslite_HasPrefix (initL vs 0) H fun e l H' => (e = .normal ∨ e = .ret) ∧ ∃ rs, resL V l H' Tryd.f40.results.toList = some rs ∧ R (resOf rs) H') : ∃ v H', Lc V O 40 vs H v H' ∧ R v H' :=
  Lc.fnP ho fn_internal_stringslite_HasPrefix b_internal_stringslite_HasPrefix pc_internal_stringslite_HasPrefix hlen hlive h
end Go.Proofs.YtdkfcpadbahohaaDoor.U

