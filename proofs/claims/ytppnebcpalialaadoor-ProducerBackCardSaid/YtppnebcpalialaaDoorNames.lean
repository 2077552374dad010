/-
  The reckoned conditions of the functions that this seat's statements reach, printed by program, each held against the translation by the kernel. No condition.
-/
import Derived.Test.YtppnebcpalialaaDoorOps
import Derived.Test.YtppnebcpalialaaDoorProg
namespace Go.Proofs.YtppnebcpalialaaDoor
set_option linter.unusedVariables false

abbrev T_int : TypeId := 3
abbrev T_bool : TypeId := 4
abbrev T_string : TypeId := 9
abbrev T_s_api_Producer : TypeId := 22
abbrev T_api_Entry : TypeId := 25
abbrev T_api_Errno : TypeId := 32
abbrev T_s_int : TypeId := 40
abbrev T_api_Producer : TypeId := 42
abbrev T_p_strings_Builder : TypeId := 47
abbrev T_s_uint8 : TypeId := 48
abbrev T_strings_Builder : TypeId := 50
abbrev T_error : TypeId := 52
abbrev T_wire_Reader : TypeId := 68
abbrev T_unsafe_Pointer : TypeId := 81
abbrev T_uint : TypeId := 83

abbrev F_erratalaw10_ProducerBack : FuncId := 3
abbrev F_erratalaw10_small : FuncId := 4
abbrev F_erratalaw10_few : FuncId := 5
abbrev F_producer_Read : FuncId := 6
abbrev F_producer_Bytes : FuncId := 7
abbrev F_producer_Right : FuncId := 8
abbrev F_errataref10_Right : FuncId := 9
abbrev F_producer_Put : FuncId := 10
abbrev F_producer_Look : FuncId := 11
abbrev F_producer_Same : FuncId := 12
abbrev F_erratalaw10_record : FuncId := 13
abbrev F_producer_Fence : FuncId := 14
abbrev F_wire_Open : FuncId := 15
abbrev F_wire_Reader_Num : FuncId := 16
abbrev F_wire_Reader_Left : FuncId := 17
abbrev F_wire_Reader_Int : FuncId := 18
abbrev F_wire_Reader_Nums : FuncId := 19
abbrev F_wire_Reader_Done : FuncId := 20
abbrev F_strings_Builder_WriteString : FuncId := 21
abbrev F_wire_Num : FuncId := 22
abbrev F_wire_Int : FuncId := 23
abbrev F_wire_Nums : FuncId := 24
abbrev F_strings_Builder_String : FuncId := 25
abbrev F_producer_fine : FuncId := 26
abbrev F_errataref10_in : FuncId := 27
abbrev F_producer_find : FuncId := 28
abbrev F_producer_in : FuncId := 29
abbrev F_producer_clone : FuncId := 30
abbrev F_slices_Clone_s_int_int : FuncId := 31
abbrev F_producer_with : FuncId := 32
abbrev F_slices_EqualFunc_s_api_Producer_s_api_Producer_api_Producer_api_Producer : FuncId := 33
abbrev F_producer_same : FuncId := 34
abbrev F_wire_Reader_number : FuncId := 35
abbrev F_wire_items_int : FuncId := 36
abbrev F_strings_Builder_copyCheck : FuncId := 37
abbrev F_strconv_Itoa : FuncId := 38
abbrev F_wire_list_int : FuncId := 39
abbrev F_slices_IndexFunc_s_api_Producer_api_Producer : FuncId := 40
abbrev F_producer_find_1 : FuncId := 41
abbrev F_slices_BinarySearchFunc_s_api_Producer_api_Producer_int : FuncId := 42
abbrev F_producer_with_1 : FuncId := 43
abbrev F_slices_Insert_s_api_Producer_api_Producer : FuncId := 44
abbrev F_slices_Equal_s_int_int : FuncId := 45
abbrev F_strings_IndexByte : FuncId := 46
abbrev F_wire_Reader_fail : FuncId := 47
abbrev F_strconv_Atoi : FuncId := 48
abbrev F_wire_Reader_close : FuncId := 49
abbrev F_internal_abi_NoEscape : FuncId := 50
abbrev F_internal_strconv_Itoa : FuncId := 51
abbrev F_slices_overlaps_api_Producer : FuncId := 52
abbrev F_slices_rotateRight_api_Producer : FuncId := 53
abbrev F_internal_stringslite_IndexByte : FuncId := 54
abbrev F_internal_strconv_Atoi : FuncId := 55
abbrev F_strconv_toError : FuncId := 56
abbrev F_strings_CutPrefix : FuncId := 57
abbrev F_internal_strconv_FormatInt : FuncId := 58
abbrev F_slices_rotateLeft_api_Producer : FuncId := 59
abbrev F_internal_strconv_ParseInt : FuncId := 61
abbrev F_strconv_syntaxError : FuncId := 62
abbrev F_strconv_rangeError : FuncId := 63
abbrev F_strconv_baseError : FuncId := 64
abbrev F_strconv_bitSizeError : FuncId := 65
abbrev F_internal_stringslite_CutPrefix : FuncId := 66
abbrev F_internal_strconv_small : FuncId := 67
abbrev F_internal_strconv_numDigits : FuncId := 68
abbrev F_internal_strconv_formatBase10 : FuncId := 69
abbrev F_internal_strconv_formatBits : FuncId := 70
abbrev F_slices_Reverse_s_api_Producer_api_Producer : FuncId := 71
abbrev F_internal_strconv_ParseUint : FuncId := 72
abbrev F_internal_stringslite_Clone : FuncId := 73
abbrev F_errors_New : FuncId := 74
abbrev F_internal_stringslite_HasPrefix : FuncId := 75
abbrev F_internal_strconv_log10Pow2 : FuncId := 76
abbrev F_math_bits_Len64 : FuncId := 77
abbrev F_internal_strconv_bool2_int : FuncId := 78
abbrev F_internal_strconv_isPowerOfTwo : FuncId := 79
abbrev F_math_bits_TrailingZeros : FuncId := 80
abbrev F_internal_strconv_lower : FuncId := 81
abbrev F_internal_strconv_underscoreOK : FuncId := 82
abbrev F_math_bits_TrailingZeros32 : FuncId := 83
abbrev F_math_bits_TrailingZeros64 : FuncId := 84
noncomputable abbrev fn_internal_abi_NoEscape : Func := Tryd.f50
noncomputable abbrev fn_slices_overlaps_api_Producer : Func := Tryd.f52
abbrev G_internal_bytealg_MaxLen : Nat := 0
abbrev G_strconv_ErrSyntax : Nat := 1
abbrev G_strconv_ErrRange : Nat := 2
abbrev G_internal_strconv_uint64pow10 : Nat := 3
abbrev G_math_bits_deBruijn32tab : Nat := 4
abbrev G_math_bits_deBruijn64tab : Nat := 5

end Go.Proofs.YtppnebcpalialaaDoor
