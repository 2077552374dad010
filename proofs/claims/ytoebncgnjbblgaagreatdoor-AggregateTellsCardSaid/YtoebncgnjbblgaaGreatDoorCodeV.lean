/-
  The codes of maps.Keys' iterator and of slices.AppendSeq at this seat's struct keys, printed by program, each held against the translation by the kernel. No condition.
-/
import Derived.Test.YtoebncgnjbblgaaGreatDoorNames
import Derived.WalkKit
import Derived.Shelf.Abstract
namespace Go.Proofs.YtoebncgnjbblgaaGreatDoor
set_option maxRecDepth 100000

def kc_0 : List Oper := [{ dst := some 4, op := .load T_map_api_Value_int (.tmp 1), type := T_map_api_Value_int, pos := "iter.go:27", after := #[], guard := none },
  { dst := some 5, op := .range T_map_api_Value_int (.tmp 4), type := 0, pos := "iter.go:27", after := #[{ on := 0, ground := .data }], guard := none }]
def kc_1 : List Oper := [{ dst := some 6, op := .next (.tmp 5) false, type := 0, pos := "iter.go:27", after := #[], guard := none },
  { dst := some 7, op := .extract (.tmp 6) 0, type := T_bool, pos := "iter.go:27", after := #[{ on := 0, ground := .data }], guard := none }]
def kc_2 : List Oper := [{ dst := some 8, op := .entry (.tmp 5), type := 0, pos := "iter.go:27", after := #[], guard := none },
  { dst := some 9, op := .extract (.tmp 8) 0, type := T_api_Value, pos := "iter.go:27", after := #[{ on := 0, ground := .data }], guard := none },
  { dst := some 3, op := .alloc T_api_Value, type := 0, pos := "iter.go:27", after := #[], guard := none },
  { dst := none, op := .store T_api_Value (.tmp 3) (.tmp 9), type := 0, pos := "iter.go:27", after := #[{ on := 2, ground := .data }, { on := 1, ground := .data }, { on := 0, ground := .phase }, { on := 1, ground := .phase }, { on := 2, ground := .phase }], guard := none }]
def kc_3 : List Oper := [{ dst := some 10, op := .move (.tmp 0), type := 74, pos := "iter.go:28", after := #[], guard := none },
  { dst := some 11, op := .load T_api_Value (.tmp 3), type := T_api_Value, pos := "iter.go:28", after := #[], guard := none },
  { dst := some 12, op := .call { callee := .value (.tmp 10), args := #[(.tmp 11)], argTypes := #[T_api_Value] }, type := T_bool, pos := "iter.go:28", after := #[{ on := 0, ground := .data }, { on := 1, ground := .data }], guard := none },
  { dst := some 13, op := .unOp .not T_bool (.tmp 12), type := T_bool, pos := "iter.go:28", after := #[{ on := 2, ground := .data }], guard := none }]
def kc : Code := (.seq (.region 0 kc_0.toArray false) (.block 0 (.loop (.seq (.region 1 kc_1.toArray false) (.seq (.cond (.tmp 7) .skip (.exit 0)) (.block 1 (.seq (.region 2 kc_2.toArray false) (.seq (.region 3 kc_3.toArray false) (.cond (.tmp 13) .ret .skip)))))))))
theorem kc_eq : Tryz.f107.body = some kc := by kernel_rfl
theorem kc_n : Tryz.f107.ntmps = 14 := by kernel_rfl
theorem kc_results (tmps : Array Value) (w : World) : (results Tryz.f107 tmps).run Tryz.prog w = .ok (.tuple #[]) w := results_none (by kernel_rfl) _ _ _
theorem kc_enters : ∀ args w, (callFunc F_maps_Keys_map_api_Value_int_api_Value_int_1 args).run Tryz.prog w = .ok (.enter F_maps_Keys_map_api_Value_int_api_Value_int_1 args) w := enters_of Tryz.func107 (by kernel_rfl) rfl
theorem kc_f : Tryz.prog.funcs[F_maps_Keys_map_api_Value_int_api_Value_int_1]? = some Tryz.f107 := Tryz.func107
def ac_0 : List Oper := [{ dst := some 2, op := .box T_s_api_Value (.tmp 0), type := 0, pos := "iter.go:50", after := #[], guard := none },
  { dst := some 4, op := .assign (.const (.slice none 0 0)), type := T_s_api_Value, pos := "iter.go:50", after := #[], guard := none }]
def ac_1 : List Oper := [{ dst := some 6, op := .move (.tmp 1), type := 119, pos := "iter.go:51", after := #[], guard := none }]
def ac_2 : List Oper := [{ dst := some 5, op := .alloc T_api_Value, type := 0, pos := "iter.go:51", after := #[], guard := none },
  { dst := none, op := .store T_api_Value (.tmp 5) (.tmp 7), type := 0, pos := "iter.go:51", after := #[{ on := 0, ground := .data }, { on := 0, ground := .phase }], guard := none }]
def ac_3 : List Oper := [{ dst := some 8, op := .load T_s_api_Value (.tmp 2), type := T_s_api_Value, pos := "iter.go:52", after := #[], guard := none },
  { dst := some 9, op := .load T_api_Value (.tmp 5), type := T_api_Value, pos := "iter.go:52", after := #[], guard := none },
  { dst := some 10, op := .buildSlice T_s_api_Value 1 #[(0, (.tmp 9))], type := T_s_api_Value, pos := "iter.go:52", after := #[{ on := 1, ground := .data }], guard := none },
  { dst := some 11, op := .call { callee := .builtin .append, args := #[(.tmp 8), (.tmp 10)], argTypes := #[T_s_api_Value, T_s_api_Value] }, type := T_s_api_Value, pos := "iter.go:52", after := #[{ on := 0, ground := .data }, { on := 2, ground := .data }], guard := none },
  { dst := none, op := .store T_s_api_Value (.tmp 2) (.tmp 11), type := 0, pos := "iter.go:52", after := #[{ on := 3, ground := .data }, { on := 3, ground := .chain }, { on := 0, ground := .phase }, { on := 1, ground := .phase }, { on := 2, ground := .phase }, { on := 3, ground := .phase }], guard := none }]
def ac_4 : List Oper := [{ dst := some 12, op := .load T_s_api_Value (.tmp 2), type := T_s_api_Value, pos := "iter.go:54", after := #[], guard := none },
  { dst := some 4, op := .assign (.tmp 12), type := T_s_api_Value, pos := "iter.go:54", after := #[{ on := 0, ground := .data }, { on := 0, ground := .phase }], guard := none }]
def ac : Code := (.seq (.region 0 ac_0.toArray false) (.seq (.seq (.region 1 ac_1.toArray false) (.block 0 (.rangeFunc (.tmp 6) #[7] (.region 2 ac_2.toArray false) (.block 1 (.region 3 ac_3.toArray false))))) (.seq (.region 4 ac_4.toArray false) .ret)))
theorem ac_eq : Tryz.f118.body = some ac := by kernel_rfl
theorem ac_n : Tryz.f118.ntmps = 13 := by kernel_rfl
theorem ac_results (tmps : Array Value) (w : World) : (results Tryz.f118 tmps).run Tryz.prog w = .ok (tmps.getD 4 undef) w := results_tmp (by kernel_rfl) _ _ _
theorem ac_f : Tryz.prog.funcs[F_slices_AppendSeq_s_api_Value_api_Value]? = some Tryz.f118 := Tryz.func118
end Go.Proofs.YtoebncgnjbblgaaGreatDoor
