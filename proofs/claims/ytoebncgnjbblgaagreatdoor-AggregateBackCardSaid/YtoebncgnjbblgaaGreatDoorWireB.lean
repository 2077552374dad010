/-
  wire: what the writing functions answer. No condition.
-/
import Derived.Test.YtoebncgnjbblgaaGreatDoorWireA
import Derived.Test.YtoebncgnjbblgaaGreatDoorSpec
--@auto
namespace Go.Proofs.YtoebncgnjbblgaaGreatDoor
open Go.RowKit
set_option maxRecDepth 100000

theorem ofL_app (a b : Bs) : ofL a ++ ofL b = ofL (a ++ b) := by
  apply bl_inj
  show (ofL a ++ ofL b).data.toList = a ++ b
  simp
theorem strL_add {P : Program} {Kp : Value → Prop} {T : TypeId} {xo yo : Operand} {a b : Bs} (h : a.length + b.length ≤ 9223372036854775807) : pureK P (sBin .add T xo yo (.string (ofL a)) (.string (ofL b))) Kp = Kp (.string (ofL (a ++ b))) := by
  rw [str_add (by rw [ofL_size, ofL_size]; exact h), ofL_app]
theorem itoa_nat {n : Nat} : Go.Lib.itoa (n : Int) = Go.Lib.decDigits n := by unfold Go.Lib.itoa; rw [if_neg (by omega)]; rfl
theorem encI_len {n : Int} (h : inI n) : (encI n).length ≤ 21 := by
  have := itoa_len h
  unfold encI
  rw [List.length_append, List.length_singleton]
  omega
theorem encT_len (s : Bs) (h : s.length ≤ 9223372036854775807) : (encT s).length ≤ s.length + 22 := by
  have := itoa_len (n := s.length) ⟨by omega, by omega⟩
  unfold encT
  simp
  omega
theorem encL_len {α : Type} (one : α → Bs) (l : List α) (h : l.length ≤ 9223372036854775807) : (l.flatMap one).length ≤ (encL one l).length ∧ (encL one l).length ≤ (l.flatMap one).length + 22 := by
  have := itoa_len (n := l.length) ⟨by omega, by omega⟩
  unfold encL
  simp
  omega
theorem flat_take_le {α : Type} (one : α → Bs) (l : List α) (i : Nat) : ((l.take i).flatMap one).length ≤ (l.flatMap one).length := by
  have e : l.flatMap one = (l.take i).flatMap one ++ (l.drop i).flatMap one := by rw [← List.flatMap_append, List.take_append_drop]
  rw [e, List.length_append]
  omega
theorem flat_len {α : Type} (one : α → Bs) (l : List α) (k : Nat) (h : ∀ x ∈ l, (one x).length ≤ k) : (l.flatMap one).length ≤ k * l.length := by
  induction l with
  | nil => simp
  | cons x l ih =>
    have h1 := h x List.mem_cons_self
    have h2 := ih fun y hy => h y (List.mem_cons_of_mem _ hy)
    rw [List.flatMap_cons, List.length_append, List.length_cons, Nat.mul_add]
    omega
theorem flat_take_succ {α : Type} (one : α → Bs) {l : List α} {i : Nat} (h : i < l.length) : (l.take (i + 1)).flatMap one = (l.take i).flatMap one ++ one l[i] := by
  rw [List.take_succ_eq_append_getElem h, List.flatMap_append]
  simp
section
variable {B : Base} {w : World} {σ : List Dat}
theorem wInt_g (hB : powD B) {n : Int} (hn : inI n) : Gives Tryz.prog B (sCall F_wire_Int #[.int .i64 n]) (.string (ofL (encI n))) := by
  refine Gives.intro fun B' w K base h k => ?_
  refine wire_Int.up (wire_Int.call ?_)
  unfold wire_Int.pt
  refine h.ask (fun B2 own base2 => itoa_g (base2 (base hB)) hn) fun w1 h => ?_
  have := itoa_len hn
  have e : pureK Tryz.prog (sBin .add T_string (.tmp 4) (.const (.string ⟨#[59]⟩)) (.string (ofL (Go.Lib.itoa n))) (.string (ofL [59]))) (fun t5 => K t5 w1) = K (.string (ofL (Go.Lib.itoa n ++ [59]))) w1 := strL_add (by simp; omega)
  show pureK Tryz.prog (sBin .add T_string (.tmp 4) (.const (.string ⟨#[59]⟩)) (.string (ofL (Go.Lib.itoa n))) (.string (ofL [59]))) (fun t5 => K t5 w1)
  rw [e]
  exact k _ _ h
theorem wNum_g (hB : powD B) {n : Int} (hn : inI n) : Gives Tryz.prog B (sCall F_wire_Num #[.int .i64 n]) (.string (ofL (encN n))) := by
  refine Gives.intro fun B' w K base h k => ?_
  refine wire_Num.up (wire_Num.call ?_)
  unfold wire_Num.pt
  simp -zeta only [bin_lss, ifB_dec]
  unfold encN at k
  refine ⟨fun c => ?_, fun c => ?_⟩
  · rw [if_pos c] at k
    exact k _ _ h
  · rw [if_neg c] at k
    refine h.ask (fun B2 own base2 => wInt_g (base2 (base hB)) hn) fun w1 h => ?_
    exact k _ _ h
theorem wText_g (hB : powD B) {s : Bs} (hs : s.length ≤ 4611686018427387904) : Gives Tryz.prog B (sCall F_wire_Text #[.string (ofL s)]) (.string (ofL (encT s))) := by
  refine Gives.intro fun B' w K base h k => ?_
  refine wire_Text.up (wire_Text.call ?_)
  unfold wire_Text.pt
  rw [str_len U_string]
  have hin : inI (s.length : Int) := ⟨by omega, by omega⟩
  refine h.ask (fun B2 own base2 => itoa_g (base2 (base hB)) hin) fun w1 h => ?_
  have hl := itoa_len hin
  rw [show (⟨#[58]⟩ : ByteArray) = ofL [58] from rfl, show (⟨#[44]⟩ : ByteArray) = ofL [44] from rfl]
  rw [strL_add (by simp; omega), strL_add (by simp; omega), strL_add (by simp; omega)]
  have e : encT s = Go.Lib.itoa s.length ++ [58] ++ s ++ [44] := by simp [encT]
  rw [e] at k
  exact k _ _ h
end
end Go.Proofs.YtoebncgnjbblgaaGreatDoor
