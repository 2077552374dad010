/-
  wire: the reader. No condition.
-/
import Derived.Test.YtoebncgnjbblgaaDoorWireB
--@auto
namespace Go.Proofs.YtoebncgnjbblgaaDoor
open Go.RowKit
set_option maxRecDepth 100000

abbrev rdC (s : RS) : Array Value := #[.string (ofL s.rest), .bool s.bad]
abbrev ptr1 (p : Nat) : Value := .pointer (some ⟨p, 0, none⟩)
section
variable {B : Base} {w : World} {σ : List Dat} {p : Nat} {s : RS}
theorem toU8 (e : UInt8) : (e.toNat : Int).toNat.toUInt8 = e := by simp
theorem numR_le {e : UInt8} (he : isEnd e) (lo : Int) (s : RS) : (numR e lo s).2.rest.length ≤ s.rest.length ∧ inI (numR e lo s).1 ∧ (0 ≤ lo → 0 ≤ (numR e lo s).1) := by
  rcases numR_cases he lo s with ⟨n, r, e1, e2, e3, e4⟩ | ⟨_, e4⟩ <;> rw [e4]
  · refine ⟨?_, e3, fun h => by show 0 ≤ n; omega⟩
    rw [e1, List.length_append, List.length_cons]
    show r.length ≤ _
    omega
  · exact ⟨Nat.zero_le _, by show inI 0; exact ⟨by decide, by decide⟩, fun _ => Int.le_refl 0⟩
theorem empty_str : (⟨#[]⟩ : ByteArray) = ofL [] := rfl
theorem eql_ofL {P : Program} {T : TypeId} {xo yo : Operand} {a b : Bs} {K : Value → Prop} : pureK P (sBin .eql T xo yo (.string (ofL a)) (.string (ofL b))) K = K (.bool (decide (a = b))) := by
  rw [eql_str]
  congr 2
  exact decide_eq_decide.2 ⟨fun h => congrArg bl h, fun h => by rw [h]⟩
def doneR (s : RS) : Bool := !s.bad && decide (s.rest = [])
end
end Go.Proofs.YtoebncgnjbblgaaDoor
