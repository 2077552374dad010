/-
  Chapter 4's small, few, played, after, same. No condition.
-/
import Derived.Test.YtmkigdkhpdeaeaaDoorDiskE
namespace Go.Proofs.YtmkigdkhpdeaeaaDoor
open Go.RowKit


section
variable {B : Base} {w : World}
theorem nil_ne {Kp : Value → Prop} {xo yo : Operand} {p : Nat} : pureK Tryd.prog (sBin .eql T_p_disk_Disk xo yo (ptr p) (.pointer none)) Kp = Kp (.bool false) := bin_eql_ptr_nil U_p_disk_Disk
theorem nil_ne' {Kp : Value → Prop} {xo yo : Operand} {p : Nat} : pureK Tryd.prog (sBin .neq T_p_disk_Disk xo yo (ptr p) (.pointer none)) Kp = Kp (.bool true) := bin_neq_ptr_nil U_p_disk_Disk
theorem nilrow (B : Base) : (rowR (.slice none 0 0) ([] : List Int)) B := ⟨none, 0, rfl, Nat.le_refl _, .inl rfl⟩

theorem Size_d {p : Nat} {s : DS} {kv : Value} (hd : diskD p s kv B) (f : Int) : Gives Tryd.prog B (sCall F_disk_Disk_Size #[ptr p, .int .i64 f]) (.int .i64 (s.fs f).now.size) := by
  obtain ⟨m, lf, cf, m2, ls, cs, qv, hF, hc, hm, _, _⟩ := diskD.peek hd
  exact Size_g hF hc hm f
end

end Go.Proofs.YtmkigdkhpdeaeaaDoor
