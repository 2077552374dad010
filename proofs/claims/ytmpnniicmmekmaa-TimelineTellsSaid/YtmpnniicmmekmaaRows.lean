/-
  No cell of these rows narrows 'for every input' (looked for: loops, veiled, ifaces, maps, wideKeys, modest, calm, conditions, laid).
  DERIVED. THE GIVEN ROWS OF THIS SEAT. 5 by the template 'for every input the law returns true; each argument reads behind the call as it read before'; 0 by the template 'total and deterministic' (their statements: YtmpnniicmmekmaaTotals.lean).
  GIVEN WITH THE SEED: the statements are not yours to turn. If you find one false, say at which input.
  Laid BY PROGRAM, IN A SANDBOX (cutbox-rows.mjs): the forced cells as the released guide's own fill.sh prints them over the translation 1e483111f0416248… (all of the seat's roots in one cut). By AI agents, Wed Nov 11 2026. No macro, syntax, notation, axiom, sorry.
-/
import Derived.Test.YtmpnniicmmekmaaChecked
import GoSem.Claim
import GoSem.ClaimJoined
import GoSem.ClaimMapViews
import Derived.JoinedTies
import Derived.KernelRfl
namespace Go.Proofs.Ytmpnniicmmekmaa
/- THE CELL 'sum', in the pinned program and in every row, IS THE sha256 OF THE DUMP (.gsa) THAT YtmpnniicmmekmaaProg.lean LOADS. Nothing in Lean hashes anything: it is a label: what it is worth is what the hold of that sum in a sandbox is worth. -/
noncomputable def Try.pinned : Pinned := { name := "ytmpnniicmmekmaa", sum := "1e483111f0416248c78601d3445b9fa5cece2f41fd188db0a7b335dc2eeb6d5c", checked := Try.checked }
namespace Rows
def none {H : Type} : Left H := { results := [], args := [] }

/-- 'erratalaw45.TimelineLast': WHATEVER THE INPUT: true; the input reads as it did. -/
def timelineLastSpec : ChangeSpec := { name := "timelineLast", fn := fun _ => fun
  | [d1, d2, d3] => { results := [.lit (.bool true)], args := [d1, d2, d3] }
  | _ => none }
def timelineLastRow : OpenClaim := { program := "ytmpnniicmmekmaa", sum := "1e483111f0416248c78601d3445b9fa5cece2f41fd188db0a7b335dc2eeb6d5c", func := "errata/erratalaw45.TimelineLast", spec := "timelineLast", unfollowed := true, recurses := true, apart := false }
def TimelineLastSaid : Prop := timelineLastRow.holds Try.pinned (OpenSpec.ofChange timelineLastSpec)

/-- ITS FALSE NEIGHBOUR: 'it returns false'. Refute it at one input. -/
def timelineLastWrong : ChangeSpec := { name := "timelineLast", fn := fun _ => fun
  | [d1, d2, d3] => { results := [.lit (.bool false)], args := [d1, d2, d3] }
  | _ => none }
def TimelineLastWrongFalsely : Prop := timelineLastRow.holds Try.pinned (OpenSpec.ofChange timelineLastWrong)

/-- 'erratalaw45.TimelineSame': WHATEVER THE INPUT: true; the input reads as it did. -/
def timelineSameSpec : ChangeSpec := { name := "timelineSame", fn := fun _ => fun
  | [d1, d2] => { results := [.lit (.bool true)], args := [d1, d2] }
  | _ => none }
def timelineSameRow : OpenClaim := { program := "ytmpnniicmmekmaa", sum := "1e483111f0416248c78601d3445b9fa5cece2f41fd188db0a7b335dc2eeb6d5c", func := "errata/erratalaw45.TimelineSame", spec := "timelineSame", unfollowed := true, recurses := true, apart := false }
def TimelineSameSaid : Prop := timelineSameRow.holds Try.pinned (OpenSpec.ofChange timelineSameSpec)

/-- ITS FALSE NEIGHBOUR: 'it returns false'. Refute it at one input. -/
def timelineSameWrong : ChangeSpec := { name := "timelineSame", fn := fun _ => fun
  | [d1, d2] => { results := [.lit (.bool false)], args := [d1, d2] }
  | _ => none }
def TimelineSameWrongFalsely : Prop := timelineSameRow.holds Try.pinned (OpenSpec.ofChange timelineSameWrong)

/-- 'erratalaw45.TimelineOpen': WHATEVER THE INPUT: true; the input reads as it did. -/
def timelineOpenSpec : ChangeSpec := { name := "timelineOpen", fn := fun _ => fun
  | [d1, d2, d3, d4] => { results := [.lit (.bool true)], args := [d1, d2, d3, d4] }
  | _ => none }
def timelineOpenRow : OpenClaim := { program := "ytmpnniicmmekmaa", sum := "1e483111f0416248c78601d3445b9fa5cece2f41fd188db0a7b335dc2eeb6d5c", func := "errata/erratalaw45.TimelineOpen", spec := "timelineOpen", unfollowed := true, recurses := true, apart := false }
def TimelineOpenSaid : Prop := timelineOpenRow.holds Try.pinned (OpenSpec.ofChange timelineOpenSpec)

/-- ITS FALSE NEIGHBOUR: 'it returns false'. Refute it at one input. -/
def timelineOpenWrong : ChangeSpec := { name := "timelineOpen", fn := fun _ => fun
  | [d1, d2, d3, d4] => { results := [.lit (.bool false)], args := [d1, d2, d3, d4] }
  | _ => none }
def TimelineOpenWrongFalsely : Prop := timelineOpenRow.holds Try.pinned (OpenSpec.ofChange timelineOpenWrong)

/-- 'erratalaw45.TimelineTells': WHATEVER THE INPUT: true; the input reads as it did. -/
def timelineTellsSpec : ChangeSpec := { name := "timelineTells", fn := fun _ => fun
  | [d1, d2, d3, d4, d5] => { results := [.lit (.bool true)], args := [d1, d2, d3, d4, d5] }
  | _ => none }
def timelineTellsRow : OpenClaim := { program := "ytmpnniicmmekmaa", sum := "1e483111f0416248c78601d3445b9fa5cece2f41fd188db0a7b335dc2eeb6d5c", func := "errata/erratalaw45.TimelineTells", spec := "timelineTells", unfollowed := true, recurses := true, apart := false }
def TimelineTellsSaid : Prop := timelineTellsRow.holds Try.pinned (OpenSpec.ofChange timelineTellsSpec)

/-- ITS FALSE NEIGHBOUR: 'it returns false'. Refute it at one input. -/
def timelineTellsWrong : ChangeSpec := { name := "timelineTells", fn := fun _ => fun
  | [d1, d2, d3, d4, d5] => { results := [.lit (.bool false)], args := [d1, d2, d3, d4, d5] }
  | _ => none }
def TimelineTellsWrongFalsely : Prop := timelineTellsRow.holds Try.pinned (OpenSpec.ofChange timelineTellsWrong)

/-- 'erratalaw45.TimelinePicks': WHATEVER THE INPUT: true; the input reads as it did. -/
def timelinePicksSpec : ChangeSpec := { name := "timelinePicks", fn := fun _ => fun
  | [d1, d2, d3] => { results := [.lit (.bool true)], args := [d1, d2, d3] }
  | _ => none }
def timelinePicksRow : OpenClaim := { program := "ytmpnniicmmekmaa", sum := "1e483111f0416248c78601d3445b9fa5cece2f41fd188db0a7b335dc2eeb6d5c", func := "errata/erratalaw45.TimelinePicks", spec := "timelinePicks", unfollowed := true, recurses := true, apart := false }
def TimelinePicksSaid : Prop := timelinePicksRow.holds Try.pinned (OpenSpec.ofChange timelinePicksSpec)

/-- ITS FALSE NEIGHBOUR: 'it returns false'. Refute it at one input. -/
def timelinePicksWrong : ChangeSpec := { name := "timelinePicks", fn := fun _ => fun
  | [d1, d2, d3] => { results := [.lit (.bool false)], args := [d1, d2, d3] }
  | _ => none }
def TimelinePicksWrongFalsely : Prop := timelinePicksRow.holds Try.pinned (OpenSpec.ofChange timelinePicksWrong)

/- THE SECOND FORM. 'bulk': how many values and letters a reading holds, each counted each time it is reached (what is shared counts as often as it is met; a slice's spare places count too). A statement '..UptoSaid' is the law's where the arguments, and the package variables that the reading takes, are together of bulk at most 1048576: NARROWER than '..Said'. Prove '..Said' where nothing that the law and all that it calls make is longer than what came in: it says more and counts as full. Else prove '..UptoSaid'. A law counts once. -/
mutual
def uptoBulk {H : Type} : DataW H → Nat
  | .lit (.string bytes) => bytes.length + 1
  | .lit _ => 1
  | .nil => 1
  | .ptr d => uptoBulk d + 1
  | .slice elems spare => uptoBulkAll elems + uptoBulkAll spare + 1
  | .agg parts => uptoBulkAll parts + 1
  | .iface _ d => uptoBulk d + 1
  | .map entries => uptoBulkEntries entries + 1
  | .held _ => 1
def uptoBulkAll {H : Type} : List (DataW H) → Nat
  | [] => 0
  | d :: r => uptoBulk d + uptoBulkAll r
def uptoBulkEntries {H : Type} : List (Lit × DataW H) → Nat
  | [] => 0
  | x :: r => uptoBulkEntry x + uptoBulkEntries r
def uptoBulkEntry {H : Type} : Lit × DataW H → Nat
  | (.string bytes, d) => bytes.length + uptoBulk d + 1
  | (_, d) => uptoBulk d + 1
 end
def uptoSmall : (H : Type) → List (DataW H) → Bool := fun _ ds => decide (uptoBulkAll ds ≤ 1048576)
def OpenSpec.upto (s : _root_.Go.ChangeSpec) : _root_.Go.OpenSpec := { _root_.Go.OpenSpec.ofChange s with cond := some uptoSmall }

/-- 'erratalaw45.TimelineLast', WHERE WHAT IT READS IS OF BULK AT MOST 1048576: true; the input reads as it did. -/
def timelineLastUptoRow : OpenClaim := { program := "ytmpnniicmmekmaa", sum := "1e483111f0416248c78601d3445b9fa5cece2f41fd188db0a7b335dc2eeb6d5c", func := "errata/erratalaw45.TimelineLast", spec := "timelineLast", unfollowed := true, recurses := true, apart := false, narrowed := true }
def TimelineLastUptoSaid : Prop := timelineLastUptoRow.holds Try.pinned (OpenSpec.upto timelineLastSpec)

/-- 'erratalaw45.TimelineSame', WHERE WHAT IT READS IS OF BULK AT MOST 1048576: true; the input reads as it did. -/
def timelineSameUptoRow : OpenClaim := { program := "ytmpnniicmmekmaa", sum := "1e483111f0416248c78601d3445b9fa5cece2f41fd188db0a7b335dc2eeb6d5c", func := "errata/erratalaw45.TimelineSame", spec := "timelineSame", unfollowed := true, recurses := true, apart := false, narrowed := true }
def TimelineSameUptoSaid : Prop := timelineSameUptoRow.holds Try.pinned (OpenSpec.upto timelineSameSpec)

/-- 'erratalaw45.TimelineOpen', WHERE WHAT IT READS IS OF BULK AT MOST 1048576: true; the input reads as it did. -/
def timelineOpenUptoRow : OpenClaim := { program := "ytmpnniicmmekmaa", sum := "1e483111f0416248c78601d3445b9fa5cece2f41fd188db0a7b335dc2eeb6d5c", func := "errata/erratalaw45.TimelineOpen", spec := "timelineOpen", unfollowed := true, recurses := true, apart := false, narrowed := true }
def TimelineOpenUptoSaid : Prop := timelineOpenUptoRow.holds Try.pinned (OpenSpec.upto timelineOpenSpec)

/-- 'erratalaw45.TimelineTells', WHERE WHAT IT READS IS OF BULK AT MOST 1048576: true; the input reads as it did. -/
def timelineTellsUptoRow : OpenClaim := { program := "ytmpnniicmmekmaa", sum := "1e483111f0416248c78601d3445b9fa5cece2f41fd188db0a7b335dc2eeb6d5c", func := "errata/erratalaw45.TimelineTells", spec := "timelineTells", unfollowed := true, recurses := true, apart := false, narrowed := true }
def TimelineTellsUptoSaid : Prop := timelineTellsUptoRow.holds Try.pinned (OpenSpec.upto timelineTellsSpec)

/-- 'erratalaw45.TimelinePicks', WHERE WHAT IT READS IS OF BULK AT MOST 1048576: true; the input reads as it did. -/
def timelinePicksUptoRow : OpenClaim := { program := "ytmpnniicmmekmaa", sum := "1e483111f0416248c78601d3445b9fa5cece2f41fd188db0a7b335dc2eeb6d5c", func := "errata/erratalaw45.TimelinePicks", spec := "timelinePicks", unfollowed := true, recurses := true, apart := false, narrowed := true }
def TimelinePicksUptoSaid : Prop := timelinePicksUptoRow.holds Try.pinned (OpenSpec.upto timelinePicksSpec)

end Rows
end Go.Proofs.Ytmpnniicmmekmaa
