/-
  No cell of these rows narrows 'for every input' (looked for: loops, veiled, ifaces, maps, wideKeys, modest, calm, conditions, laid).
  DERIVED. THE GIVEN ROWS OF THIS SEAT. 3 by the template 'for every input the law returns true; each argument reads behind the call as it read before'; 0 by the template 'total and deterministic' (their statements: YtmllhipiahlihaaTotals.lean).
  GIVEN WITH THE SEED: the statements are not yours to turn. If you find one false, say at which input.
  Laid BY PROGRAM, IN A SANDBOX (cutbox-rows.mjs): the forced cells as the released guide's own fill.sh prints them over the translation 26458ecb9056dfc3… (all of the seat's roots in one cut). By AI agents, Wed Nov 11 2026. No macro, syntax, notation, axiom, sorry.
-/
import Derived.Test.YtmllhipiahlihaaChecked
import GoSem.Claim
import GoSem.ClaimJoined
import GoSem.ClaimMapViews
import Derived.JoinedTies
import Derived.KernelRfl
namespace Go.Proofs.Ytmllhipiahlihaa
/- THE CELL 'sum', in the pinned program and in every row, IS THE sha256 OF THE DUMP (.gsa) THAT YtmllhipiahlihaaProg.lean LOADS. Nothing in Lean hashes anything: it is a label: what it is worth is what the hold of that sum in a sandbox is worth. -/
noncomputable def Try.pinned : Pinned := { name := "ytmllhipiahlihaa", sum := "26458ecb9056dfc327865cb7bc0711f93af21544230100647996bcd2a92a9fc0", checked := Try.checked }
namespace Rows
def none {H : Type} : Left H := { results := [], args := [] }

/-- 'erratalaw12.RetainHolds': WHATEVER THE INPUT: true; the input reads as it did. -/
def retainHoldsSpec : ChangeSpec := { name := "retainHolds", fn := fun _ => fun
  | [d1, d2, d3] => { results := [.lit (.bool true)], args := [d1, d2, d3] }
  | _ => none }
def retainHoldsRow : OpenClaim := { program := "ytmllhipiahlihaa", sum := "26458ecb9056dfc327865cb7bc0711f93af21544230100647996bcd2a92a9fc0", func := "errata/erratalaw12.RetainHolds", spec := "retainHolds", unfollowed := true, recurses := true, apart := false }
def RetainHoldsSaid : Prop := retainHoldsRow.holds Try.pinned (OpenSpec.ofChange retainHoldsSpec)

/-- ITS FALSE NEIGHBOUR: 'it returns false'. Refute it at one input. -/
def retainHoldsWrong : ChangeSpec := { name := "retainHolds", fn := fun _ => fun
  | [d1, d2, d3] => { results := [.lit (.bool false)], args := [d1, d2, d3] }
  | _ => none }
def RetainHoldsWrongFalsely : Prop := retainHoldsRow.holds Try.pinned (OpenSpec.ofChange retainHoldsWrong)

/-- 'erratalaw12.RetainDrops': WHATEVER THE INPUT: true; the input reads as it did. -/
def retainDropsSpec : ChangeSpec := { name := "retainDrops", fn := fun _ => fun
  | [d1, d2, d3] => { results := [.lit (.bool true)], args := [d1, d2, d3] }
  | _ => none }
def retainDropsRow : OpenClaim := { program := "ytmllhipiahlihaa", sum := "26458ecb9056dfc327865cb7bc0711f93af21544230100647996bcd2a92a9fc0", func := "errata/erratalaw12.RetainDrops", spec := "retainDrops", unfollowed := true, recurses := true, apart := false }
def RetainDropsSaid : Prop := retainDropsRow.holds Try.pinned (OpenSpec.ofChange retainDropsSpec)

/-- ITS FALSE NEIGHBOUR: 'it returns false'. Refute it at one input. -/
def retainDropsWrong : ChangeSpec := { name := "retainDrops", fn := fun _ => fun
  | [d1, d2, d3] => { results := [.lit (.bool false)], args := [d1, d2, d3] }
  | _ => none }
def RetainDropsWrongFalsely : Prop := retainDropsRow.holds Try.pinned (OpenSpec.ofChange retainDropsWrong)

/-- 'erratalaw12.RetainFull': WHATEVER THE INPUT: true; the input reads as it did. -/
def retainFullSpec : ChangeSpec := { name := "retainFull", fn := fun _ => fun
  | [d1, d2] => { results := [.lit (.bool true)], args := [d1, d2] }
  | _ => none }
def retainFullRow : OpenClaim := { program := "ytmllhipiahlihaa", sum := "26458ecb9056dfc327865cb7bc0711f93af21544230100647996bcd2a92a9fc0", func := "errata/erratalaw12.RetainFull", spec := "retainFull", unfollowed := true, recurses := true, apart := false }
def RetainFullSaid : Prop := retainFullRow.holds Try.pinned (OpenSpec.ofChange retainFullSpec)

/-- ITS FALSE NEIGHBOUR: 'it returns false'. Refute it at one input. -/
def retainFullWrong : ChangeSpec := { name := "retainFull", fn := fun _ => fun
  | [d1, d2] => { results := [.lit (.bool false)], args := [d1, d2] }
  | _ => none }
def RetainFullWrongFalsely : Prop := retainFullRow.holds Try.pinned (OpenSpec.ofChange retainFullWrong)

/- THE SECOND FORM. 'bulk': how many values and letters a reading holds, each counted each time it is reached (what is shared counts as often as it is met; a slice's spare places count too). A statement '..UptoSaid' is the law's where the arguments, and the package variables that the reading takes, are together of bulk at most 1048576: NARROWER than '..Said'. Prove '..Said' where nothing that the law and all that it calls make is longer than what came in: it says more and counts as full. Else prove '..UptoSaid'. A law counts once. -/
mutual
def uptoBulk {H : Type} : DataW H → Nat
  | .lit (.string bytes) => bytes.length + 1
  | .lit _ => 1
  | .nil => 1
  | .ptr d => uptoBulk d + 1
  | .slice elems spare => uptoBulkAll elems + uptoBulkAll spare + 1
  | .agg parts => uptoBulkAll parts + 1
  | .iface _ d => uptoBulk d + 1
  | .map entries => uptoBulkEntries entries + 1
  | .held _ => 1
def uptoBulkAll {H : Type} : List (DataW H) → Nat
  | [] => 0
  | d :: r => uptoBulk d + uptoBulkAll r
def uptoBulkEntries {H : Type} : List (Lit × DataW H) → Nat
  | [] => 0
  | x :: r => uptoBulkEntry x + uptoBulkEntries r
def uptoBulkEntry {H : Type} : Lit × DataW H → Nat
  | (.string bytes, d) => bytes.length + uptoBulk d + 1
  | (_, d) => uptoBulk d + 1
 end
def uptoSmall : (H : Type) → List (DataW H) → Bool := fun _ ds => decide (uptoBulkAll ds ≤ 1048576)
def OpenSpec.upto (s : _root_.Go.ChangeSpec) : _root_.Go.OpenSpec := { _root_.Go.OpenSpec.ofChange s with cond := some uptoSmall }

/-- 'erratalaw12.RetainHolds', WHERE WHAT IT READS IS OF BULK AT MOST 1048576: true; the input reads as it did. -/
def retainHoldsUptoRow : OpenClaim := { program := "ytmllhipiahlihaa", sum := "26458ecb9056dfc327865cb7bc0711f93af21544230100647996bcd2a92a9fc0", func := "errata/erratalaw12.RetainHolds", spec := "retainHolds", unfollowed := true, recurses := true, apart := false, narrowed := true }
def RetainHoldsUptoSaid : Prop := retainHoldsUptoRow.holds Try.pinned (OpenSpec.upto retainHoldsSpec)

/-- 'erratalaw12.RetainDrops', WHERE WHAT IT READS IS OF BULK AT MOST 1048576: true; the input reads as it did. -/
def retainDropsUptoRow : OpenClaim := { program := "ytmllhipiahlihaa", sum := "26458ecb9056dfc327865cb7bc0711f93af21544230100647996bcd2a92a9fc0", func := "errata/erratalaw12.RetainDrops", spec := "retainDrops", unfollowed := true, recurses := true, apart := false, narrowed := true }
def RetainDropsUptoSaid : Prop := retainDropsUptoRow.holds Try.pinned (OpenSpec.upto retainDropsSpec)

/-- 'erratalaw12.RetainFull', WHERE WHAT IT READS IS OF BULK AT MOST 1048576: true; the input reads as it did. -/
def retainFullUptoRow : OpenClaim := { program := "ytmllhipiahlihaa", sum := "26458ecb9056dfc327865cb7bc0711f93af21544230100647996bcd2a92a9fc0", func := "errata/erratalaw12.RetainFull", spec := "retainFull", unfollowed := true, recurses := true, apart := false, narrowed := true }
def RetainFullUptoSaid : Prop := retainFullUptoRow.holds Try.pinned (OpenSpec.upto retainFullSpec)

end Rows
end Go.Proofs.Ytmllhipiahlihaa
