/-
  No cell of these rows narrows 'for every input' (looked for: loops, veiled, ifaces, maps, wideKeys, modest, calm, conditions, laid).
  DERIVED. THE GIVEN ROWS OF THIS SEAT. 4 by the template 'for every input the law returns true; each argument reads behind the call as it read before'; 0 by the template 'total and deterministic' (their statements: YtollnmlnpngmfaaTotals.lean).
  GIVEN WITH THE SEED: the statements are not yours to turn. If you find one false, say at which input.
  Laid BY PROGRAM, IN A SANDBOX (cutbox-rows.mjs): the forced cells as the released guide's own fill.sh prints them over the translation ff769f282ef77b65… (all of the seat's roots in one cut). By AI agents, Wed Nov 11 2026. No macro, syntax, notation, axiom, sorry.
-/
import Derived.Test.YtollnmlnpngmfaaChecked
import GoSem.Claim
import GoSem.ClaimJoined
import GoSem.ClaimMapViews
import Derived.JoinedTies
import Derived.KernelRfl
namespace Go.Proofs.Ytollnmlnpngmfaa
/- THE CELL 'sum', in the pinned program and in every row, IS THE sha256 OF THE DUMP (.gsa) THAT YtollnmlnpngmfaaProg.lean LOADS. Nothing in Lean hashes anything: it is a label: what it is worth is what the hold of that sum in a sandbox is worth. -/
noncomputable def Try.pinned : Pinned := { name := "ytollnmlnpngmfaa", sum := "ff769f282ef77b653943583093b9ca9d354def4f44d8e032bf3a07414feb7da6", checked := Try.checked }
namespace Rows
def none {H : Type} : Left H := { results := [], args := [] }

/-- 'erratalaw07.NetOrders': WHATEVER THE INPUT: true; the input reads as it did. -/
def netOrdersSpec : ChangeSpec := { name := "netOrders", fn := fun _ => fun
  | [d1, d2] => { results := [.lit (.bool true)], args := [d1, d2] }
  | _ => none }
def netOrdersRow : OpenClaim := { program := "ytollnmlnpngmfaa", sum := "ff769f282ef77b653943583093b9ca9d354def4f44d8e032bf3a07414feb7da6", func := "errata/erratalaw07.NetOrders", spec := "netOrders", apart := false }
def NetOrdersSaid : Prop := netOrdersRow.holds Try.pinned (OpenSpec.ofChange netOrdersSpec)

/-- ITS FALSE NEIGHBOUR: 'it returns false'. Refute it at one input. -/
def netOrdersWrong : ChangeSpec := { name := "netOrders", fn := fun _ => fun
  | [d1, d2] => { results := [.lit (.bool false)], args := [d1, d2] }
  | _ => none }
def NetOrdersWrongFalsely : Prop := netOrdersRow.holds Try.pinned (OpenSpec.ofChange netOrdersWrong)

/-- 'erratalaw07.NetSides': WHATEVER THE INPUT: true; the input reads as it did. -/
def netSidesSpec : ChangeSpec := { name := "netSides", fn := fun _ => fun
  | [d1, d2, d3] => { results := [.lit (.bool true)], args := [d1, d2, d3] }
  | _ => none }
def netSidesRow : OpenClaim := { program := "ytollnmlnpngmfaa", sum := "ff769f282ef77b653943583093b9ca9d354def4f44d8e032bf3a07414feb7da6", func := "errata/erratalaw07.NetSides", spec := "netSides", apart := false }
def NetSidesSaid : Prop := netSidesRow.holds Try.pinned (OpenSpec.ofChange netSidesSpec)

/-- ITS FALSE NEIGHBOUR: 'it returns false'. Refute it at one input. -/
def netSidesWrong : ChangeSpec := { name := "netSides", fn := fun _ => fun
  | [d1, d2, d3] => { results := [.lit (.bool false)], args := [d1, d2, d3] }
  | _ => none }
def NetSidesWrongFalsely : Prop := netSidesRow.holds Try.pinned (OpenSpec.ofChange netSidesWrong)

/-- 'erratalaw07.NetHonest': WHATEVER THE INPUT: true; the input reads as it did. -/
def netHonestSpec : ChangeSpec := { name := "netHonest", fn := fun _ => fun
  | [d] => { results := [.lit (.bool true)], args := [d] }
  | _ => none }
def netHonestRow : OpenClaim := { program := "ytollnmlnpngmfaa", sum := "ff769f282ef77b653943583093b9ca9d354def4f44d8e032bf3a07414feb7da6", func := "errata/erratalaw07.NetHonest", spec := "netHonest", apart := false }
def NetHonestSaid : Prop := netHonestRow.holds Try.pinned (OpenSpec.ofChange netHonestSpec)

/-- ITS FALSE NEIGHBOUR: 'it returns false'. Refute it at one input. -/
def netHonestWrong : ChangeSpec := { name := "netHonest", fn := fun _ => fun
  | [d] => { results := [.lit (.bool false)], args := [d] }
  | _ => none }
def NetHonestWrongFalsely : Prop := netHonestRow.holds Try.pinned (OpenSpec.ofChange netHonestWrong)

/-- 'erratalaw07.NetTells': WHATEVER THE INPUT: true; the input reads as it did. -/
def netTellsSpec : ChangeSpec := { name := "netTells", fn := fun _ => fun
  | [d1, d2, d3, d4] => { results := [.lit (.bool true)], args := [d1, d2, d3, d4] }
  | _ => none }
def netTellsRow : OpenClaim := { program := "ytollnmlnpngmfaa", sum := "ff769f282ef77b653943583093b9ca9d354def4f44d8e032bf3a07414feb7da6", func := "errata/erratalaw07.NetTells", spec := "netTells", apart := false }
def NetTellsSaid : Prop := netTellsRow.holds Try.pinned (OpenSpec.ofChange netTellsSpec)

/-- ITS FALSE NEIGHBOUR: 'it returns false'. Refute it at one input. -/
def netTellsWrong : ChangeSpec := { name := "netTells", fn := fun _ => fun
  | [d1, d2, d3, d4] => { results := [.lit (.bool false)], args := [d1, d2, d3, d4] }
  | _ => none }
def NetTellsWrongFalsely : Prop := netTellsRow.holds Try.pinned (OpenSpec.ofChange netTellsWrong)

/- THE SECOND FORM. 'bulk': how many values and letters a reading holds, each counted each time it is reached (what is shared counts as often as it is met; a slice's spare places count too). A statement '..UptoSaid' is the law's where the arguments, and the package variables that the reading takes, are together of bulk at most 1048576: NARROWER than '..Said'. Prove '..Said' where nothing that the law and all that it calls make is longer than what came in: it says more and counts as full. Else prove '..UptoSaid'. A law counts once. -/
mutual
def uptoBulk {H : Type} : DataW H → Nat
  | .lit (.string bytes) => bytes.length + 1
  | .lit _ => 1
  | .nil => 1
  | .ptr d => uptoBulk d + 1
  | .slice elems spare => uptoBulkAll elems + uptoBulkAll spare + 1
  | .agg parts => uptoBulkAll parts + 1
  | .iface _ d => uptoBulk d + 1
  | .map entries => uptoBulkEntries entries + 1
  | .held _ => 1
def uptoBulkAll {H : Type} : List (DataW H) → Nat
  | [] => 0
  | d :: r => uptoBulk d + uptoBulkAll r
def uptoBulkEntries {H : Type} : List (Lit × DataW H) → Nat
  | [] => 0
  | x :: r => uptoBulkEntry x + uptoBulkEntries r
def uptoBulkEntry {H : Type} : Lit × DataW H → Nat
  | (.string bytes, d) => bytes.length + uptoBulk d + 1
  | (_, d) => uptoBulk d + 1
 end
def uptoSmall : (H : Type) → List (DataW H) → Bool := fun _ ds => decide (uptoBulkAll ds ≤ 1048576)
def OpenSpec.upto (s : _root_.Go.ChangeSpec) : _root_.Go.OpenSpec := { _root_.Go.OpenSpec.ofChange s with cond := some uptoSmall }

/-- 'erratalaw07.NetOrders', WHERE WHAT IT READS IS OF BULK AT MOST 1048576: true; the input reads as it did. -/
def netOrdersUptoRow : OpenClaim := { program := "ytollnmlnpngmfaa", sum := "ff769f282ef77b653943583093b9ca9d354def4f44d8e032bf3a07414feb7da6", func := "errata/erratalaw07.NetOrders", spec := "netOrders", apart := false, narrowed := true }
def NetOrdersUptoSaid : Prop := netOrdersUptoRow.holds Try.pinned (OpenSpec.upto netOrdersSpec)

/-- 'erratalaw07.NetSides', WHERE WHAT IT READS IS OF BULK AT MOST 1048576: true; the input reads as it did. -/
def netSidesUptoRow : OpenClaim := { program := "ytollnmlnpngmfaa", sum := "ff769f282ef77b653943583093b9ca9d354def4f44d8e032bf3a07414feb7da6", func := "errata/erratalaw07.NetSides", spec := "netSides", apart := false, narrowed := true }
def NetSidesUptoSaid : Prop := netSidesUptoRow.holds Try.pinned (OpenSpec.upto netSidesSpec)

/-- 'erratalaw07.NetHonest', WHERE WHAT IT READS IS OF BULK AT MOST 1048576: true; the input reads as it did. -/
def netHonestUptoRow : OpenClaim := { program := "ytollnmlnpngmfaa", sum := "ff769f282ef77b653943583093b9ca9d354def4f44d8e032bf3a07414feb7da6", func := "errata/erratalaw07.NetHonest", spec := "netHonest", apart := false, narrowed := true }
def NetHonestUptoSaid : Prop := netHonestUptoRow.holds Try.pinned (OpenSpec.upto netHonestSpec)

/-- 'erratalaw07.NetTells', WHERE WHAT IT READS IS OF BULK AT MOST 1048576: true; the input reads as it did. -/
def netTellsUptoRow : OpenClaim := { program := "ytollnmlnpngmfaa", sum := "ff769f282ef77b653943583093b9ca9d354def4f44d8e032bf3a07414feb7da6", func := "errata/erratalaw07.NetTells", spec := "netTells", apart := false, narrowed := true }
def NetTellsUptoSaid : Prop := netTellsUptoRow.holds Try.pinned (OpenSpec.upto netTellsSpec)

end Rows
end Go.Proofs.Ytollnmlnpngmfaa
