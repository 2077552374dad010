/-
  text: Unquote's plain law. No condition.
-/
import Derived.Test.YtifhbaphlmhoeaaGreatDoorTxtA
namespace Go.Proofs.YtifhbaphlmhoeaaGreatDoor
open Go.RowKit
set_option maxRecDepth 100000

/-- The byte that two digits name, as the code reckons it. -/
def hexV (a b : UInt8) : UInt8 := UInt8.ofNat (IntKind.u8.wrap (IntKind.i64.wrap ((BitVec.ofInt IntKind.i64.bits (IntKind.i64.wrap (Go.Lib.indexByte hexL a * 16)) ||| BitVec.ofInt IntKind.i64.bits (Go.Lib.indexByte hexL b)).toNat : Int))).toNat
theorem hexV_digits (c : UInt8) : hexV (hexd (c.toNat / 16)) (hexd (c.toNat % 16)) = c := by
  have h : ∀ n : Fin 256, hexV (hexd (n.1 / 16)) (hexd (n.1 % 16)) = UInt8.ofNat n.1 := by decide +kernel
  have := h ⟨c.toNat, c.toNat_lt⟩
  rw [this]
  simp
def unq : Bs → Bs
  | [] => []
  | c :: [] => [c]
  | c :: d :: [] => if c ≠ 92 then c :: unq [d] else if d = 110 then [10] else [d]
  | c :: d :: a :: [] => if c ≠ 92 then c :: unq [d, a] else if d = 110 then 10 :: unq [a] else d :: unq [a]
  | c :: d :: a :: b :: r => if c ≠ 92 then c :: unq (d :: a :: b :: r) else if d = 110 then 10 :: unq (a :: b :: r) else if d = 120 then hexV a b :: unq r else d :: unq (a :: b :: r)
theorem unq_plain {c : UInt8} (h : c ≠ 92) (r : Bs) : unq (c :: r) = c :: unq r := by
  match r with
  | [] => simp [unq]
  | [d] => simp [unq, h]
  | [d, a] => simp [unq, h]
  | d :: a :: b :: r => rw [unq, if_pos h]
theorem unq_n (r : Bs) : unq (92 :: 110 :: r) = 10 :: unq r := by
  match r with
  | [] => simp [unq]
  | [a] => simp [unq]
  | a :: b :: r => simp [unq]
theorem unq_x (a b : UInt8) (r : Bs) : unq (92 :: 120 :: a :: b :: r) = hexV a b :: unq r := by simp [unq]
theorem unq_other {d : UInt8} (h1 : d ≠ 110) (h2 : d ≠ 120) (r : Bs) : unq (92 :: d :: r) = d :: unq r := by
  match r with
  | [] => simp [unq, h1]
  | [a] => simp [unq, h1]
  | a :: b :: r => simp [unq, h1, h2]
theorem unq_esc (c : UInt8) (r : Bs) : unq (escB c ++ r) = c :: unq r := by
  have inj : ∀ {n : UInt8}, c.toNat = n.toNat → c = n := fun h => UInt8.toNat_inj.1 h
  unfold escB
  split
  · rename_i h
    show unq (92 :: c :: r) = _
    refine unq_other ?_ ?_ r
    · rintro rfl; rcases h with h | h <;> exact absurd h (by decide)
    · rintro rfl; rcases h with h | h <;> exact absurd h (by decide)
  · rename_i h
    split
    · rename_i h10
      have : c = 10 := inj h10
      subst this
      exact unq_n r
    · split
      · exact unq_plain (fun hh => h (.inr (by rw [hh]; rfl))) r
      · show unq (92 :: 120 :: hexd (c.toNat / 16) :: hexd (c.toNat % 16) :: r) = _
        rw [unq_x, hexV_digits]
theorem unq_quote : ∀ s : Bs, unq (s.flatMap escB) = s
  | [] => rfl
  | c :: s => by rw [List.flatMap_cons, unq_esc, unq_quote s]
def bodyQ (s : Bs) : Bs := (s.drop 1).take (s.length - 2)
theorem bodyQ_quote (t : Bs) : bodyQ (quoteS t) = t.flatMap escB := by
  unfold bodyQ quoteS
  rw [List.drop_succ_cons, List.drop_zero, List.length_cons, List.length_append, List.length_singleton, show (t.flatMap escB).length + 1 + 1 - 2 = (t.flatMap escB).length by omega, List.take_left]
/-- What Unquote makes of a string. -/
def unquoteS (s : Bs) : Option Bs := if quoteS (unq (bodyQ s)) = s then some (unq (bodyQ s)) else none
theorem unquote_quote (t : Bs) : unquoteS (quoteS t) = some t := by
  unfold unquoteS
  rw [bodyQ_quote, unq_quote, if_pos rfl]
theorem unquote_back {s t : Bs} (h : unquoteS s = some t) : quoteS t = s := by
  unfold unquoteS at h
  split at h
  · rename_i hq
    injection h with h
    rw [h] at hq
    exact hq
  · cases h
end Go.Proofs.YtifhbaphlmhoeaaGreatDoor
