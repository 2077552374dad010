/-
  No cell of these rows narrows 'for every input' (looked for: loops, veiled, ifaces, maps, wideKeys, modest, calm, conditions, laid).
  DERIVED. THE GIVEN ROWS OF THIS SEAT. 3 by the template 'for every input the law returns true; each argument reads behind the call as it read before'; 0 by the template 'total and deterministic' (their statements: YtncgdihcplhcoaaTotals.lean).
  GIVEN WITH THE SEED: the statements are not yours to turn. If you find one false, say at which input.
  Laid BY PROGRAM, IN A SANDBOX (cutbox-rows.mjs): the forced cells as the released guide's own fill.sh prints them over the translation 2388776b5cee31bd… (all of the seat's roots in one cut). By AI agents, Wed Nov 11 2026. No macro, syntax, notation, axiom, sorry.
-/
import Derived.Test.YtncgdihcplhcoaaChecked
import GoSem.Claim
import GoSem.ClaimJoined
import GoSem.ClaimMapViews
import Derived.JoinedTies
import Derived.KernelRfl
namespace Go.Proofs.Ytncgdihcplhcoaa
/- THE CELL 'sum', in the pinned program and in every row, IS THE sha256 OF THE DUMP (.gsa) THAT YtncgdihcplhcoaaProg.lean LOADS. Nothing in Lean hashes anything: it is a label: what it is worth is what the hold of that sum in a sandbox is worth. -/
noncomputable def Try.pinned : Pinned := { name := "ytncgdihcplhcoaa", sum := "2388776b5cee31bd4a1a8df6bee75bfe33a56bc3300ba7af392bfdb25bcacb22", checked := Try.checked }
namespace Rows
def none {H : Type} : Left H := { results := [], args := [] }

/-- 'erratalaw35.MarksTree': WHATEVER THE INPUT: true; the input reads as it did. -/
def marksTreeSpec : ChangeSpec := { name := "marksTree", fn := fun _ => fun
  | [d1, d2] => { results := [.lit (.bool true)], args := [d1, d2] }
  | _ => none }
def marksTreeRow : OpenClaim := { program := "ytncgdihcplhcoaa", sum := "2388776b5cee31bd4a1a8df6bee75bfe33a56bc3300ba7af392bfdb25bcacb22", func := "errata/erratalaw35.MarksTree", spec := "marksTree", apart := false }
def MarksTreeSaid : Prop := marksTreeRow.holds Try.pinned (OpenSpec.ofChange marksTreeSpec)

/-- ITS FALSE NEIGHBOUR: 'it returns false'. Refute it at one input. -/
def marksTreeWrong : ChangeSpec := { name := "marksTree", fn := fun _ => fun
  | [d1, d2] => { results := [.lit (.bool false)], args := [d1, d2] }
  | _ => none }
def MarksTreeWrongFalsely : Prop := marksTreeRow.holds Try.pinned (OpenSpec.ofChange marksTreeWrong)

/-- 'erratalaw35.MarksCut': WHATEVER THE INPUT: true; the input reads as it did. -/
def marksCutSpec : ChangeSpec := { name := "marksCut", fn := fun _ => fun
  | [d1, d2, d3] => { results := [.lit (.bool true)], args := [d1, d2, d3] }
  | _ => none }
def marksCutRow : OpenClaim := { program := "ytncgdihcplhcoaa", sum := "2388776b5cee31bd4a1a8df6bee75bfe33a56bc3300ba7af392bfdb25bcacb22", func := "errata/erratalaw35.MarksCut", spec := "marksCut", apart := false }
def MarksCutSaid : Prop := marksCutRow.holds Try.pinned (OpenSpec.ofChange marksCutSpec)

/-- ITS FALSE NEIGHBOUR: 'it returns false'. Refute it at one input. -/
def marksCutWrong : ChangeSpec := { name := "marksCut", fn := fun _ => fun
  | [d1, d2, d3] => { results := [.lit (.bool false)], args := [d1, d2, d3] }
  | _ => none }
def MarksCutWrongFalsely : Prop := marksCutRow.holds Try.pinned (OpenSpec.ofChange marksCutWrong)

/-- 'erratalaw35.MarksRise': WHATEVER THE INPUT: true; the input reads as it did. -/
def marksRiseSpec : ChangeSpec := { name := "marksRise", fn := fun _ => fun
  | [d1, d2] => { results := [.lit (.bool true)], args := [d1, d2] }
  | _ => none }
def marksRiseRow : OpenClaim := { program := "ytncgdihcplhcoaa", sum := "2388776b5cee31bd4a1a8df6bee75bfe33a56bc3300ba7af392bfdb25bcacb22", func := "errata/erratalaw35.MarksRise", spec := "marksRise", apart := false }
def MarksRiseSaid : Prop := marksRiseRow.holds Try.pinned (OpenSpec.ofChange marksRiseSpec)

/-- ITS FALSE NEIGHBOUR: 'it returns false'. Refute it at one input. -/
def marksRiseWrong : ChangeSpec := { name := "marksRise", fn := fun _ => fun
  | [d1, d2] => { results := [.lit (.bool false)], args := [d1, d2] }
  | _ => none }
def MarksRiseWrongFalsely : Prop := marksRiseRow.holds Try.pinned (OpenSpec.ofChange marksRiseWrong)

/- THE SECOND FORM. 'bulk': how many values and letters a reading holds, each counted each time it is reached (what is shared counts as often as it is met; a slice's spare places count too). A statement '..UptoSaid' is the law's where the arguments, and the package variables that the reading takes, are together of bulk at most 1048576: NARROWER than '..Said'. Prove '..Said' where nothing that the law and all that it calls make is longer than what came in: it says more and counts as full. Else prove '..UptoSaid'. A law counts once. -/
mutual
def uptoBulk {H : Type} : DataW H → Nat
  | .lit (.string bytes) => bytes.length + 1
  | .lit _ => 1
  | .nil => 1
  | .ptr d => uptoBulk d + 1
  | .slice elems spare => uptoBulkAll elems + uptoBulkAll spare + 1
  | .agg parts => uptoBulkAll parts + 1
  | .iface _ d => uptoBulk d + 1
  | .map entries => uptoBulkEntries entries + 1
  | .held _ => 1
def uptoBulkAll {H : Type} : List (DataW H) → Nat
  | [] => 0
  | d :: r => uptoBulk d + uptoBulkAll r
def uptoBulkEntries {H : Type} : List (Lit × DataW H) → Nat
  | [] => 0
  | x :: r => uptoBulkEntry x + uptoBulkEntries r
def uptoBulkEntry {H : Type} : Lit × DataW H → Nat
  | (.string bytes, d) => bytes.length + uptoBulk d + 1
  | (_, d) => uptoBulk d + 1
 end
def uptoSmall : (H : Type) → List (DataW H) → Bool := fun _ ds => decide (uptoBulkAll ds ≤ 1048576)
def OpenSpec.upto (s : _root_.Go.ChangeSpec) : _root_.Go.OpenSpec := { _root_.Go.OpenSpec.ofChange s with cond := some uptoSmall }

/-- 'erratalaw35.MarksTree', WHERE WHAT IT READS IS OF BULK AT MOST 1048576: true; the input reads as it did. -/
def marksTreeUptoRow : OpenClaim := { program := "ytncgdihcplhcoaa", sum := "2388776b5cee31bd4a1a8df6bee75bfe33a56bc3300ba7af392bfdb25bcacb22", func := "errata/erratalaw35.MarksTree", spec := "marksTree", apart := false, narrowed := true }
def MarksTreeUptoSaid : Prop := marksTreeUptoRow.holds Try.pinned (OpenSpec.upto marksTreeSpec)

/-- 'erratalaw35.MarksCut', WHERE WHAT IT READS IS OF BULK AT MOST 1048576: true; the input reads as it did. -/
def marksCutUptoRow : OpenClaim := { program := "ytncgdihcplhcoaa", sum := "2388776b5cee31bd4a1a8df6bee75bfe33a56bc3300ba7af392bfdb25bcacb22", func := "errata/erratalaw35.MarksCut", spec := "marksCut", apart := false, narrowed := true }
def MarksCutUptoSaid : Prop := marksCutUptoRow.holds Try.pinned (OpenSpec.upto marksCutSpec)

/-- 'erratalaw35.MarksRise', WHERE WHAT IT READS IS OF BULK AT MOST 1048576: true; the input reads as it did. -/
def marksRiseUptoRow : OpenClaim := { program := "ytncgdihcplhcoaa", sum := "2388776b5cee31bd4a1a8df6bee75bfe33a56bc3300ba7af392bfdb25bcacb22", func := "errata/erratalaw35.MarksRise", spec := "marksRise", apart := false, narrowed := true }
def MarksRiseUptoSaid : Prop := marksRiseUptoRow.holds Try.pinned (OpenSpec.upto marksRiseSpec)

end Rows
end Go.Proofs.Ytncgdihcplhcoaa
