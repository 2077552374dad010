/-
  Values and rows: how they compare. No condition.
-/
import Derived.Test.YtmllhipiahlihaaGreatDoorValB
import Derived.Test.YtmllhipiahlihaaGreatDoorVal0
--@auto
namespace Go.Proofs.YtmllhipiahlihaaGreatDoor
open Go.RowKit
set_option maxRecDepth 100000

def cmpI (a b : Int) : Int := if a < b then -1 else if b < a then 1 else 0
def compareV (a b : ValD) : Int := if cmpI a.kind b.kind ≠ 0 then cmpI a.kind b.kind else if cmpI a.n b.n ≠ 0 then cmpI a.n b.n else Go.Lib.compareBytes (bl a.s) (bl b.s)
def compareRows : List ValD → List ValD → Int
  | [], [] => 0
  | [], _ :: _ => -1
  | _ :: _, [] => 1
  | a :: l, b :: m => if compareV a b ≠ 0 then compareV a b else compareRows l m
theorem compareRows_at {l m : List ValD} {i : Nat} (h1 : i < l.length) (h2 : i < m.length) : compareRows (l.drop i) (m.drop i) = if compareV l[i] m[i] ≠ 0 then compareV l[i] m[i] else compareRows (l.drop (i + 1)) (m.drop (i + 1)) := by
  rw [List.drop_eq_getElem_cons h1, List.drop_eq_getElem_cons h2, compareRows]
section
variable {B : Base} {w : World} {σ : List Dat}
def orI : List Int → Int
  | [] => 0
  | a :: l => if a ≠ 0 then a else orI l
end
end Go.Proofs.YtmllhipiahlihaaGreatDoor
