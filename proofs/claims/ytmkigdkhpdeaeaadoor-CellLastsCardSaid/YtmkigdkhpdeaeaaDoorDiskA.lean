/-
  Bytes that are put into a string, as the program and the reference of chapter 4 do it. No condition.
-/
import Derived.Test.YtmkigdkhpdeaeaaDoorMaps
import Derived.Test.YtmkigdkhpdeaeaaDoorStrs
import Derived.Test.YtmkigdkhpdeaeaaDoorPt0
import Derived.Test.YtmkigdkhpdeaeaaDoorPt1
import Derived.Test.YtmkigdkhpdeaeaaDoorTypes
namespace Go.Proofs.YtmkigdkhpdeaeaaDoor
open Go.RowKit
abbrev FileV := D_disk_file
abbrev Sec := D_disk_sector

def padL (s : List UInt8) (at_ n : Nat) : List UInt8 := s ++ List.replicate (max s.length (at_ + n) - s.length) 0
theorem padL_length (s : List UInt8) (at_ n : Nat) : (padL s at_ n).length = max s.length (at_ + n) := by
  unfold padL
  rw [List.length_append, List.length_replicate]
  omega
def putL (s : List UInt8) (at_ : Nat) (t : List UInt8) : List UInt8 := (padL s at_ t.length).take at_ ++ t ++ (padL s at_ t.length).drop (at_ + t.length)
theorem putL_length (s : List UInt8) (at_ : Nat) (t : List UInt8) : (putL s at_ t).length = max s.length (at_ + t.length) := by
  unfold putL
  rw [List.length_append, List.length_append, List.length_take, List.length_drop, padL_length]
  omega
theorem putL_get (s : List UInt8) (at_ : Nat) (t : List UInt8) (i : Nat) : (putL s at_ t).getD i 0 = if at_ ≤ i ∧ i < at_ + t.length then t.getD (i - at_) 0 else s.getD i 0 := by
  have hp : ∀ j, (padL s at_ t.length).getD j 0 = s.getD j 0 := by
    intro j
    unfold padL
    simp only [List.getD_eq_getElem?_getD]
    rcases Nat.lt_or_ge j s.length with h | h
    · rw [List.getElem?_append_left h]
    · rw [List.getElem?_append_right h, List.getElem?_replicate, List.getElem?_eq_none h]
      split <;> rfl
  unfold putL
  simp only [List.getD_eq_getElem?_getD]
  have hl := padL_length s at_ t.length
  by_cases h1 : at_ ≤ i
  · by_cases h2 : i < at_ + t.length
    · rw [if_pos ⟨h1, h2⟩, List.append_assoc, List.getElem?_append_right (by rw [List.length_take]; omega), List.length_take, Nat.min_eq_left (by omega), List.getElem?_append_left (by omega)]
    · rw [if_neg (by omega), List.getElem?_append_right (by rw [List.length_append, List.length_take]; omega), List.length_append, List.length_take, Nat.min_eq_left (by omega), List.getElem?_drop]
      have := hp i
      simp only [List.getD_eq_getElem?_getD] at this
      rw [← this]
      congr 2
      omega
  · rw [if_neg (by omega), List.append_assoc, List.getElem?_append_left (by rw [List.length_take]; omega), List.getElem?_take, if_pos (by omega)]
    have := hp i
    simp only [List.getD_eq_getElem?_getD] at this
    exact this
def putB (s : ByteArray) (at_ : Nat) (t : ByteArray) : ByteArray := if t = ⟨#[]⟩ then s else ofL (putL (bl s) at_ (bl t))
theorem empty_bl {t : ByteArray} : t = ⟨#[]⟩ ↔ bl t = [] := by
  constructor
  · rintro rfl; rfl
  · intro h; rw [← ofL_bl t, h]

theorem beq_bytes {s t : ByteArray} : (s.toList == t.toList) = decide (s = t) := toList_beq

section
variable {B : Base}
theorem put_g {s t : ByteArray} {at_ : Nat} (hs : s.size ≤ 1073741824) (ht : t.size ≤ 1073741824) (ha : at_ ≤ 1073741824) : Gives Tryd.prog B (sCall F_disk_put #[.string s, .int .i64 at_, .string t]) (.string (putB s at_ t)) := by
  refine Gives.intro fun B' w K base h k => ?_
  refine disk_put.up (disk_put.call ?_)
  unfold disk_put.pt
  rw [eql_str, ifB_dec]
  refine ⟨fun e => ?_, fun e => ?_⟩
  · unfold putB at k
    rw [if_pos e] at k
    exact k _ _ h
  · unfold putB at k
    rw [if_neg e] at k
    have hs' := bl_length s
    have ht' := bl_length t
    have hw : IntKind.i64.wrap ((at_ : Int) + ((bl t).length : Int)) = ((at_ + (bl t).length : Nat) : Int) := by rw [wrap_id (by omega) (by omega)]; omega
    have hm : max ((bl s).length : Int) ((at_ + (bl t).length : Nat) : Int) = ((max (bl s).length (at_ + (bl t).length) : Nat) : Int) := by omega
    simp -zeta only [str_len U_string, bin_add, hw, blt_max, hm]
    generalize hn : max (bl s).length (at_ + (bl t).length) = n
    refine h.mkSlice (n := n) (0 : UInt8) sl_s_uint8 (by kernel_rfl) (by omega) (by omega) fun v w1 h nv => ?_
    obtain ⟨g, cap, rfl⟩ := h.open_nn (i := 0) rfl nv
    have hlen : (List.replicate n (0 : UInt8)).length = n := List.length_replicate
    refine h.copyStr 0 (g := g) (n := (List.replicate n (0 : UInt8)).length) (cap := cap) (lo := 0) (a := some ⟨g, 0, none⟩) (dc := cap) rfl sl_s_uint8 (Nat.zero_le _) (.inl rfl) fun w2 h => ?_
    have e1 : (List.replicate n (0 : UInt8)).take 0 ++ (bl s).take ((List.replicate n (0 : UInt8)).length - 0) ++ (List.replicate n (0 : UInt8)).drop (0 + ((bl s).take ((List.replicate n (0 : UInt8)).length - 0)).length) = padL (bl s) at_ (bl t).length := by
      unfold padL
      rw [hlen, Nat.sub_zero, List.take_of_length_le (show (bl s).length ≤ n by omega), Nat.zero_add, List.drop_replicate, hn]
      rfl
    rw [e1] at h
    have hpl := padL_length (bl s) at_ (bl t).length
    have h : Rel B' w2 [rowD T_uint8 (.slice (some ⟨g, 0, none⟩) (List.replicate n (0 : UInt8)).length cap) (padL (bl s) at_ (bl t).length)] := h
    have hcap : n ≤ cap := by
      obtain ⟨_, _, he, hc, _⟩ := rowD.read (h.here (i := 0) rfl)
      injection he with _ e2 e3
      omega
    obtain ⟨a, ha2, hcut⟩ := cut_own (α := UInt8) (P := Tryd.prog) (g := g) (n := (List.replicate n (0 : UInt8)).length) (cap := cap) (lo := at_) sl_s_uint8 (by omega) (by omega)
    simp -zeta only [hcut]
    refine h.copyStr 0 (g := g) (n := (List.replicate n (0 : UInt8)).length) (cap := cap) (lo := at_) (a := a) rfl sl_s_uint8 (by omega) (ha2.imp id fun hh => ⟨by omega, hh.2⟩) fun w3 h => ?_
    have e2 : (padL (bl s) at_ (bl t).length).take at_ ++ (bl t).take ((padL (bl s) at_ (bl t).length).length - at_) ++ (padL (bl s) at_ (bl t).length).drop (at_ + ((bl t).take ((padL (bl s) at_ (bl t).length).length - at_)).length) = putL (bl s) at_ (bl t) := by
      unfold putL
      rw [List.take_of_length_le (show (bl t).length ≤ (padL (bl s) at_ (bl t).length).length - at_ by omega)]
    rw [e2] at h
    exact h.toStr (Rd.at (E := T_uint8) 0 rfl) U_s_uint8 U_uint8 U_string (k _ _ h)
end
end Go.Proofs.YtmkigdkhpdeaeaaDoor
