/-
  The reckoned conditions of the functions that this seat's statements reach, printed by program, each held against the translation by the kernel. No condition.
-/
import Derived.Test.YtncgdihcplhcoaaOps
import Derived.Test.YtncgdihcplhcoaaProg
namespace Go.Proofs.Ytncgdihcplhcoaa
set_option linter.unusedVariables false

abbrev T_int : TypeId := 3
abbrev T_bool : TypeId := 4
abbrev T_string : TypeId := 9
abbrev T_s_int : TypeId := 22
abbrev T_s_erratalaw35_Op : TypeId := 23
abbrev T_s_p_marks_Marks : TypeId := 25
abbrev T_p_marks_Marks : TypeId := 26
abbrev T_erratalaw35_Op : TypeId := 29
abbrev T_api_Errno : TypeId := 30
abbrev T_s_bool : TypeId := 36
abbrev T_s_marks_input : TypeId := 42
abbrev T_marks_input : TypeId := 45
abbrev T_marks_Marks : TypeId := 47
abbrev T_uint : TypeId := 49
abbrev T_uint32 : TypeId := 53
abbrev T_uint64 : TypeId := 56

abbrev F_erratalaw35_MarksTree : FuncId := 3
abbrev F_erratalaw35_MarksCut : FuncId := 4
abbrev F_erratalaw35_MarksRise : FuncId := 5
abbrev F_erratalaw35_small : FuncId := 6
abbrev F_marks_New : FuncId := 7
abbrev F_marks_Marks_Note : FuncId := 8
abbrev F_marks_Marks_Mark : FuncId := 9
abbrev F_marks_Cut : FuncId := 10
abbrev F_marks_Marks_Count : FuncId := 11
abbrev F_erratalaw35_do : FuncId := 12
abbrev F_marks_Marks_Of : FuncId := 13
abbrev F_marks_Marks_Idle : FuncId := 14
abbrev F_slices_Repeat_s_marks_input_marks_input : FuncId := 15
abbrev F_marks_Marks_has : FuncId := 16
abbrev F_marks_Marks_settled : FuncId := 17
abbrev F_math_bits_Mul : FuncId := 18
abbrev F_marks_least_int : FuncId := 19
abbrev F_math_bits_Mul32 : FuncId := 20
abbrev F_math_bits_Mul64 : FuncId := 21
abbrev F_slices_Min_s_int_int : FuncId := 22

end Go.Proofs.Ytncgdihcplhcoaa
