/-
  NARROWER THAN 'FOR EVERY INPUT', by the rows' own cells (each row's printed sentence says how): CellReads: laid · CellStays: laid · CellApart: laid · CellLasts: laid · CellTells: laid.
  DERIVED. THE GIVEN ROWS OF THIS SEAT. 5 by the template 'for every input the law returns true; each argument reads behind the call as it read before'; 0 by the template 'total and deterministic' (their statements: YtmkigdkhpdeaeaaDoorTotals.lean).
  GIVEN WITH THE SEED: the statements are not yours to turn. If you find one false, say at which input.
  Laid BY PROGRAM, IN A SANDBOX (cutbox-rows.mjs): the forced cells as the released guide's own fill.sh prints them over the translation b729ddf25f38a0b1… (all of the seat's roots in one cut). By AI agents, Wed Nov 11 2026. No macro, syntax, notation, axiom, sorry.
-/
import Derived.Test.YtmkigdkhpdeaeaaDoorChecked
import GoSem.Claim
import GoSem.ClaimJoined
import GoSem.ClaimMapViews
import Derived.JoinedTies
import Derived.KernelRfl
namespace Go.Proofs.YtmkigdkhpdeaeaaDoor
/- THE CELL 'sum', in the pinned program and in every row, IS THE sha256 OF THE DUMP (.gsa) THAT YtmkigdkhpdeaeaaDoorProg.lean LOADS. Nothing in Lean hashes anything: it is a label: what it is worth is what the hold of that sum in a sandbox is worth. -/
noncomputable def Tryd.pinned : Pinned := { name := "ytmkigdkhpdeaeaadoor", sum := "b729ddf25f38a0b1c481ad3fc440f648d8a7819ce222b066830f9e4fe090cead", checked := Tryd.checked }
namespace Rows
def none {H : Type} : Left H := { results := [], args := [] }

/- WHAT THE LISTED PACKAGE-LEVEL VARIABLES READ AS WHEN THE CALL BEGINS. Each datum BY PROGRAM (the guide's laid-datum.mjs) off the statement by which the dump's own 'gosem.cut.vars' lays the variable. In a bare row this is a premise. The card (YtmkigdkhpdeaeaaDoorCards.lean) ties it to the program's text. -/
def laid_errata_cell_offsets {H : Type} : DataW H := .agg [.lit (.int .i64 0), .lit (.int .i64 64), .lit (.int .i64 131072)]

/-- 'erratalaw05.CellReads': WHATEVER THE INPUT: true; the input reads as it did. -/
def cellReadsSpec : ChangeSpec := { name := "cellReads", fn := fun _ => fun
  | [d1, d2, d3] => { results := [.lit (.bool true)], args := [d1, d2, d3] }
  | _ => none }
def cellReadsRow : OpenClaim := { program := "ytmkigdkhpdeaeaadoor", sum := "b729ddf25f38a0b1c481ad3fc440f648d8a7819ce222b066830f9e4fe090cead", func := "errata/erratalaw05.CellReads", spec := "cellReads", unfollowed := true, recurses := true, named := ["errata/cell.offsets"], plainKeys := false, apart := false, laid := [("errata/cell.offsets", laid_errata_cell_offsets)] }
def CellReadsSaid : Prop := cellReadsRow.holds Tryd.pinned (OpenSpec.ofChange cellReadsSpec)

/-- ITS FALSE NEIGHBOUR: 'it returns false'. Refute it at one input. -/
def cellReadsWrong : ChangeSpec := { name := "cellReads", fn := fun _ => fun
  | [d1, d2, d3] => { results := [.lit (.bool false)], args := [d1, d2, d3] }
  | _ => none }
def CellReadsWrongFalsely : Prop := cellReadsRow.holds Tryd.pinned (OpenSpec.ofChange cellReadsWrong)

/-- 'erratalaw05.CellStays': WHATEVER THE INPUT: true; the input reads as it did. -/
def cellStaysSpec : ChangeSpec := { name := "cellStays", fn := fun _ => fun
  | [d1, d2, d3, d4] => { results := [.lit (.bool true)], args := [d1, d2, d3, d4] }
  | _ => none }
def cellStaysRow : OpenClaim := { program := "ytmkigdkhpdeaeaadoor", sum := "b729ddf25f38a0b1c481ad3fc440f648d8a7819ce222b066830f9e4fe090cead", func := "errata/erratalaw05.CellStays", spec := "cellStays", unfollowed := true, recurses := true, named := ["errata/cell.offsets"], plainKeys := false, apart := false, laid := [("errata/cell.offsets", laid_errata_cell_offsets)] }
def CellStaysSaid : Prop := cellStaysRow.holds Tryd.pinned (OpenSpec.ofChange cellStaysSpec)

/-- ITS FALSE NEIGHBOUR: 'it returns false'. Refute it at one input. -/
def cellStaysWrong : ChangeSpec := { name := "cellStays", fn := fun _ => fun
  | [d1, d2, d3, d4] => { results := [.lit (.bool false)], args := [d1, d2, d3, d4] }
  | _ => none }
def CellStaysWrongFalsely : Prop := cellStaysRow.holds Tryd.pinned (OpenSpec.ofChange cellStaysWrong)

/-- 'erratalaw05.CellApart': WHATEVER THE INPUT: true; the input reads as it did. -/
def cellApartSpec : ChangeSpec := { name := "cellApart", fn := fun _ => fun
  | [d1, d2, d3, d4, d5, d6] => { results := [.lit (.bool true)], args := [d1, d2, d3, d4, d5, d6] }
  | _ => none }
def cellApartRow : OpenClaim := { program := "ytmkigdkhpdeaeaadoor", sum := "b729ddf25f38a0b1c481ad3fc440f648d8a7819ce222b066830f9e4fe090cead", func := "errata/erratalaw05.CellApart", spec := "cellApart", unfollowed := true, recurses := true, named := ["errata/cell.offsets"], plainKeys := false, apart := false, laid := [("errata/cell.offsets", laid_errata_cell_offsets)] }
def CellApartSaid : Prop := cellApartRow.holds Tryd.pinned (OpenSpec.ofChange cellApartSpec)

/-- ITS FALSE NEIGHBOUR: 'it returns false'. Refute it at one input. -/
def cellApartWrong : ChangeSpec := { name := "cellApart", fn := fun _ => fun
  | [d1, d2, d3, d4, d5, d6] => { results := [.lit (.bool false)], args := [d1, d2, d3, d4, d5, d6] }
  | _ => none }
def CellApartWrongFalsely : Prop := cellApartRow.holds Tryd.pinned (OpenSpec.ofChange cellApartWrong)

/-- 'erratalaw05.CellLasts': WHATEVER THE INPUT: true; the input reads as it did. -/
def cellLastsSpec : ChangeSpec := { name := "cellLasts", fn := fun _ => fun
  | [d1, d2] => { results := [.lit (.bool true)], args := [d1, d2] }
  | _ => none }
def cellLastsRow : OpenClaim := { program := "ytmkigdkhpdeaeaadoor", sum := "b729ddf25f38a0b1c481ad3fc440f648d8a7819ce222b066830f9e4fe090cead", func := "errata/erratalaw05.CellLasts", spec := "cellLasts", unfollowed := true, recurses := true, named := ["errata/cell.offsets"], plainKeys := false, apart := false, laid := [("errata/cell.offsets", laid_errata_cell_offsets)] }
def CellLastsSaid : Prop := cellLastsRow.holds Tryd.pinned (OpenSpec.ofChange cellLastsSpec)

/-- ITS FALSE NEIGHBOUR: 'it returns false'. Refute it at one input. -/
def cellLastsWrong : ChangeSpec := { name := "cellLasts", fn := fun _ => fun
  | [d1, d2] => { results := [.lit (.bool false)], args := [d1, d2] }
  | _ => none }
def CellLastsWrongFalsely : Prop := cellLastsRow.holds Tryd.pinned (OpenSpec.ofChange cellLastsWrong)

/-- 'erratalaw05.CellTells': WHATEVER THE INPUT: true; the input reads as it did. -/
def cellTellsSpec : ChangeSpec := { name := "cellTells", fn := fun _ => fun
  | [d] => { results := [.lit (.bool true)], args := [d] }
  | _ => none }
def cellTellsRow : OpenClaim := { program := "ytmkigdkhpdeaeaadoor", sum := "b729ddf25f38a0b1c481ad3fc440f648d8a7819ce222b066830f9e4fe090cead", func := "errata/erratalaw05.CellTells", spec := "cellTells", unfollowed := true, recurses := true, named := ["errata/cell.offsets"], plainKeys := false, apart := false, laid := [("errata/cell.offsets", laid_errata_cell_offsets)] }
def CellTellsSaid : Prop := cellTellsRow.holds Tryd.pinned (OpenSpec.ofChange cellTellsSpec)

/-- ITS FALSE NEIGHBOUR: 'it returns false'. Refute it at one input. -/
def cellTellsWrong : ChangeSpec := { name := "cellTells", fn := fun _ => fun
  | [d] => { results := [.lit (.bool false)], args := [d] }
  | _ => none }
def CellTellsWrongFalsely : Prop := cellTellsRow.holds Tryd.pinned (OpenSpec.ofChange cellTellsWrong)

/- THE SECOND FORM. 'bulk': how many values and letters a reading holds, each counted each time it is reached (what is shared counts as often as it is met; a slice's spare places count too). A statement '..UptoSaid' is the law's where the arguments, and the package variables that the reading takes, are together of bulk at most 1048576: NARROWER than '..Said'. Prove '..Said' where nothing that the law and all that it calls make is longer than what came in: it says more and counts as full. Else prove '..UptoSaid'. A law counts once. -/
mutual
def uptoBulk {H : Type} : DataW H → Nat
  | .lit (.string bytes) => bytes.length + 1
  | .lit _ => 1
  | .nil => 1
  | .ptr d => uptoBulk d + 1
  | .slice elems spare => uptoBulkAll elems + uptoBulkAll spare + 1
  | .agg parts => uptoBulkAll parts + 1
  | .iface _ d => uptoBulk d + 1
  | .map entries => uptoBulkEntries entries + 1
  | .held _ => 1
def uptoBulkAll {H : Type} : List (DataW H) → Nat
  | [] => 0
  | d :: r => uptoBulk d + uptoBulkAll r
def uptoBulkEntries {H : Type} : List (Lit × DataW H) → Nat
  | [] => 0
  | x :: r => uptoBulkEntry x + uptoBulkEntries r
def uptoBulkEntry {H : Type} : Lit × DataW H → Nat
  | (.string bytes, d) => bytes.length + uptoBulk d + 1
  | (_, d) => uptoBulk d + 1
 end
def uptoSmall : (H : Type) → List (DataW H) → Bool := fun _ ds => decide (uptoBulkAll ds ≤ 1048576)
def OpenSpec.upto (s : _root_.Go.ChangeSpec) : _root_.Go.OpenSpec := { _root_.Go.OpenSpec.ofChange s with cond := some uptoSmall }

/-- 'erratalaw05.CellReads', WHERE WHAT IT READS IS OF BULK AT MOST 1048576: true; the input reads as it did. -/
def cellReadsUptoRow : OpenClaim := { program := "ytmkigdkhpdeaeaadoor", sum := "b729ddf25f38a0b1c481ad3fc440f648d8a7819ce222b066830f9e4fe090cead", func := "errata/erratalaw05.CellReads", spec := "cellReads", unfollowed := true, recurses := true, named := ["errata/cell.offsets"], plainKeys := false, apart := false, laid := [("errata/cell.offsets", laid_errata_cell_offsets)], narrowed := true }
def CellReadsUptoSaid : Prop := cellReadsUptoRow.holds Tryd.pinned (OpenSpec.upto cellReadsSpec)

/-- 'erratalaw05.CellStays', WHERE WHAT IT READS IS OF BULK AT MOST 1048576: true; the input reads as it did. -/
def cellStaysUptoRow : OpenClaim := { program := "ytmkigdkhpdeaeaadoor", sum := "b729ddf25f38a0b1c481ad3fc440f648d8a7819ce222b066830f9e4fe090cead", func := "errata/erratalaw05.CellStays", spec := "cellStays", unfollowed := true, recurses := true, named := ["errata/cell.offsets"], plainKeys := false, apart := false, laid := [("errata/cell.offsets", laid_errata_cell_offsets)], narrowed := true }
def CellStaysUptoSaid : Prop := cellStaysUptoRow.holds Tryd.pinned (OpenSpec.upto cellStaysSpec)

/-- 'erratalaw05.CellApart', WHERE WHAT IT READS IS OF BULK AT MOST 1048576: true; the input reads as it did. -/
def cellApartUptoRow : OpenClaim := { program := "ytmkigdkhpdeaeaadoor", sum := "b729ddf25f38a0b1c481ad3fc440f648d8a7819ce222b066830f9e4fe090cead", func := "errata/erratalaw05.CellApart", spec := "cellApart", unfollowed := true, recurses := true, named := ["errata/cell.offsets"], plainKeys := false, apart := false, laid := [("errata/cell.offsets", laid_errata_cell_offsets)], narrowed := true }
def CellApartUptoSaid : Prop := cellApartUptoRow.holds Tryd.pinned (OpenSpec.upto cellApartSpec)

/-- 'erratalaw05.CellLasts', WHERE WHAT IT READS IS OF BULK AT MOST 1048576: true; the input reads as it did. -/
def cellLastsUptoRow : OpenClaim := { program := "ytmkigdkhpdeaeaadoor", sum := "b729ddf25f38a0b1c481ad3fc440f648d8a7819ce222b066830f9e4fe090cead", func := "errata/erratalaw05.CellLasts", spec := "cellLasts", unfollowed := true, recurses := true, named := ["errata/cell.offsets"], plainKeys := false, apart := false, laid := [("errata/cell.offsets", laid_errata_cell_offsets)], narrowed := true }
def CellLastsUptoSaid : Prop := cellLastsUptoRow.holds Tryd.pinned (OpenSpec.upto cellLastsSpec)

/-- 'erratalaw05.CellTells', WHERE WHAT IT READS IS OF BULK AT MOST 1048576: true; the input reads as it did. -/
def cellTellsUptoRow : OpenClaim := { program := "ytmkigdkhpdeaeaadoor", sum := "b729ddf25f38a0b1c481ad3fc440f648d8a7819ce222b066830f9e4fe090cead", func := "errata/erratalaw05.CellTells", spec := "cellTells", unfollowed := true, recurses := true, named := ["errata/cell.offsets"], plainKeys := false, apart := false, laid := [("errata/cell.offsets", laid_errata_cell_offsets)], narrowed := true }
def CellTellsUptoSaid : Prop := cellTellsUptoRow.holds Tryd.pinned (OpenSpec.upto cellTellsSpec)

end Rows
end Go.Proofs.YtmkigdkhpdeaeaaDoor
