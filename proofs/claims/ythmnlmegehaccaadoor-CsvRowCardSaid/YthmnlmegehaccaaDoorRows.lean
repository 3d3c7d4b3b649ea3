/-
  NARROWER THAN 'FOR EVERY INPUT', by the rows' own cells (each row's printed sentence says how): CsvReads: laid · CsvWrites: laid · CsvNames: laid · CsvBack: laid · CsvEnds: laid · CsvRow: laid.
  DERIVED. THE GIVEN ROWS OF THIS SEAT. 6 by the template 'for every input the law returns true; each argument reads behind the call as it read before'; 0 by the template 'total and deterministic' (their statements: YthmnlmegehaccaaDoorTotals.lean).
  GIVEN WITH THE SEED: the statements are not yours to turn. If you find one false, say at which input.
  Laid BY PROGRAM, IN A SANDBOX (cutbox-rows.mjs): the forced cells as the released guide's own fill.sh prints them over the translation 099367c56ca13b74… (all of the seat's roots in one cut). By AI agents, Wed Nov 11 2026. No macro, syntax, notation, axiom, sorry.
-/
import Derived.Test.YthmnlmegehaccaaDoorChecked
import GoSem.PinnedTables
import GoSem.Claim
import GoSem.ClaimJoined
import GoSem.ClaimMapViews
import Derived.JoinedTies
import Derived.KernelRfl
namespace Go.Proofs.YthmnlmegehaccaaDoor
/- THE CELL 'sum', in the pinned program and in every row, IS THE sha256 OF THE DUMP (.gsa) THAT YthmnlmegehaccaaDoorProg.lean LOADS. Nothing in Lean hashes anything: it is a label: what it is worth is what the hold of that sum in a sandbox is worth. -/
noncomputable def Tryd.pinned : Pinned := { name := "ythmnlmegehaccaadoor", sum := "099367c56ca13b74c5babc1a29e43209cd7f465c7fb5bcb89756756911670d60", checked := Tryd.checked }
namespace Rows
def none {H : Type} : Left H := { results := [], args := [] }

/- WHAT THE LISTED PACKAGE-LEVEL VARIABLES READ AS WHEN THE CALL BEGINS. Each datum BY PROGRAM (the guide's laid-datum.mjs) off the statement by which the dump's own 'gosem.cut.vars' lays the variable. In a bare row this is a premise. The card (YthmnlmegehaccaaDoorCards.lean) ties it to the program's text. -/
def laid_unicode_utf8_acceptRanges {H : Type} : DataW H := .agg [.agg [.lit (.int .u8 128), .lit (.int .u8 191)], .agg [.lit (.int .u8 160), .lit (.int .u8 191)], .agg [.lit (.int .u8 128), .lit (.int .u8 159)], .agg [.lit (.int .u8 144), .lit (.int .u8 191)], .agg [.lit (.int .u8 128), .lit (.int .u8 143)], .agg [.lit (.int .u8 0), .lit (.int .u8 0)], .agg [.lit (.int .u8 0), .lit (.int .u8 0)], .agg [.lit (.int .u8 0), .lit (.int .u8 0)], .agg [.lit (.int .u8 0), .lit (.int .u8 0)], .agg [.lit (.int .u8 0), .lit (.int .u8 0)], .agg [.lit (.int .u8 0), .lit (.int .u8 0)], .agg [.lit (.int .u8 0), .lit (.int .u8 0)], .agg [.lit (.int .u8 0), .lit (.int .u8 0)], .agg [.lit (.int .u8 0), .lit (.int .u8 0)], .agg [.lit (.int .u8 0), .lit (.int .u8 0)], .agg [.lit (.int .u8 0), .lit (.int .u8 0)]]
/-- One of Go's own tables, pinned by name: the form's constant. -/
def laid_unicode_utf8_first : DataW Unit := Go.Pinned.utf8First

/-- 'corollarylaw28.CsvReads': WHATEVER THE INPUT: true; the input reads as it did. -/
def csvReadsSpec : ChangeSpec := { name := "csvReads", fn := fun _ => fun
  | [d] => { results := [.lit (.bool true)], args := [d] }
  | _ => none }
def csvReadsRow : OpenClaim := { program := "ythmnlmegehaccaadoor", sum := "099367c56ca13b74c5babc1a29e43209cd7f465c7fb5bcb89756756911670d60", func := "corollary/corollarylaw28.CsvReads", spec := "csvReads", inPlace := ["internal/abi.NoEscape", "internal/bytealg.IndexByteString", "internal/bytealg.IndexString", "internal/bytealg.CountString", "internal/bytealg.MakeNoZero"], unfollowed := true, recurses := true, named := ["internal/bytealg.MaxLen", "unicode/utf8.first", "unicode/utf8.acceptRanges"], apart := false, laid := [("unicode/utf8.acceptRanges", laid_unicode_utf8_acceptRanges), ("unicode/utf8.first", laid_unicode_utf8_first)] }
def CsvReadsSaid : Prop := csvReadsRow.holds Tryd.pinned (OpenSpec.ofChange csvReadsSpec)

/-- ITS FALSE NEIGHBOUR: 'it returns false'. Refute it at one input. -/
def csvReadsWrong : ChangeSpec := { name := "csvReads", fn := fun _ => fun
  | [d] => { results := [.lit (.bool false)], args := [d] }
  | _ => none }
def CsvReadsWrongFalsely : Prop := csvReadsRow.holds Tryd.pinned (OpenSpec.ofChange csvReadsWrong)

/-- 'corollarylaw28.CsvWrites': WHATEVER THE INPUT: true; the input reads as it did. -/
def csvWritesSpec : ChangeSpec := { name := "csvWrites", fn := fun _ => fun
  | [d] => { results := [.lit (.bool true)], args := [d] }
  | _ => none }
def csvWritesRow : OpenClaim := { program := "ythmnlmegehaccaadoor", sum := "099367c56ca13b74c5babc1a29e43209cd7f465c7fb5bcb89756756911670d60", func := "corollary/corollarylaw28.CsvWrites", spec := "csvWrites", inPlace := ["internal/abi.NoEscape", "internal/bytealg.IndexByteString", "internal/bytealg.IndexString", "internal/bytealg.CountString", "internal/bytealg.MakeNoZero"], unfollowed := true, recurses := true, named := ["internal/bytealg.MaxLen", "unicode/utf8.first", "unicode/utf8.acceptRanges"], apart := false, laid := [("unicode/utf8.acceptRanges", laid_unicode_utf8_acceptRanges), ("unicode/utf8.first", laid_unicode_utf8_first)] }
def CsvWritesSaid : Prop := csvWritesRow.holds Tryd.pinned (OpenSpec.ofChange csvWritesSpec)

/-- ITS FALSE NEIGHBOUR: 'it returns false'. Refute it at one input. -/
def csvWritesWrong : ChangeSpec := { name := "csvWrites", fn := fun _ => fun
  | [d] => { results := [.lit (.bool false)], args := [d] }
  | _ => none }
def CsvWritesWrongFalsely : Prop := csvWritesRow.holds Tryd.pinned (OpenSpec.ofChange csvWritesWrong)

/-- 'corollarylaw28.CsvNames': WHATEVER THE INPUT: true; the input reads as it did. -/
def csvNamesSpec : ChangeSpec := { name := "csvNames", fn := fun _ => fun
  | [] => { results := [.lit (.bool true)], args := [] }
  | _ => none }
def csvNamesRow : OpenClaim := { program := "ythmnlmegehaccaadoor", sum := "099367c56ca13b74c5babc1a29e43209cd7f465c7fb5bcb89756756911670d60", func := "corollary/corollarylaw28.CsvNames", spec := "csvNames", inPlace := ["internal/abi.NoEscape", "internal/bytealg.IndexByteString", "internal/bytealg.IndexString", "internal/bytealg.CountString", "internal/bytealg.MakeNoZero"], unfollowed := true, recurses := true, named := ["internal/bytealg.MaxLen", "unicode/utf8.first", "unicode/utf8.acceptRanges"], apart := false, laid := [("unicode/utf8.acceptRanges", laid_unicode_utf8_acceptRanges), ("unicode/utf8.first", laid_unicode_utf8_first)] }
def CsvNamesSaid : Prop := csvNamesRow.holds Tryd.pinned (OpenSpec.ofChange csvNamesSpec)

/-- ITS FALSE NEIGHBOUR: 'it returns false'. Refute it at one input. -/
def csvNamesWrong : ChangeSpec := { name := "csvNames", fn := fun _ => fun
  | [] => { results := [.lit (.bool false)], args := [] }
  | _ => none }
def CsvNamesWrongFalsely : Prop := csvNamesRow.holds Tryd.pinned (OpenSpec.ofChange csvNamesWrong)

/-- 'corollarylaw28.CsvBack': WHATEVER THE INPUT: true; the input reads as it did. -/
def csvBackSpec : ChangeSpec := { name := "csvBack", fn := fun _ => fun
  | [d1, d2] => { results := [.lit (.bool true)], args := [d1, d2] }
  | _ => none }
def csvBackRow : OpenClaim := { program := "ythmnlmegehaccaadoor", sum := "099367c56ca13b74c5babc1a29e43209cd7f465c7fb5bcb89756756911670d60", func := "corollary/corollarylaw28.CsvBack", spec := "csvBack", inPlace := ["internal/abi.NoEscape", "internal/bytealg.IndexByteString", "internal/bytealg.IndexString", "internal/bytealg.CountString", "internal/bytealg.MakeNoZero"], unfollowed := true, recurses := true, named := ["internal/bytealg.MaxLen", "unicode/utf8.first", "unicode/utf8.acceptRanges"], apart := false, laid := [("unicode/utf8.acceptRanges", laid_unicode_utf8_acceptRanges), ("unicode/utf8.first", laid_unicode_utf8_first)] }
def CsvBackSaid : Prop := csvBackRow.holds Tryd.pinned (OpenSpec.ofChange csvBackSpec)

/-- ITS FALSE NEIGHBOUR: 'it returns false'. Refute it at one input. -/
def csvBackWrong : ChangeSpec := { name := "csvBack", fn := fun _ => fun
  | [d1, d2] => { results := [.lit (.bool false)], args := [d1, d2] }
  | _ => none }
def CsvBackWrongFalsely : Prop := csvBackRow.holds Tryd.pinned (OpenSpec.ofChange csvBackWrong)

/-- 'corollarylaw28.CsvEnds': WHATEVER THE INPUT: true; the input reads as it did. -/
def csvEndsSpec : ChangeSpec := { name := "csvEnds", fn := fun _ => fun
  | [d1, d2, d3] => { results := [.lit (.bool true)], args := [d1, d2, d3] }
  | _ => none }
def csvEndsRow : OpenClaim := { program := "ythmnlmegehaccaadoor", sum := "099367c56ca13b74c5babc1a29e43209cd7f465c7fb5bcb89756756911670d60", func := "corollary/corollarylaw28.CsvEnds", spec := "csvEnds", inPlace := ["internal/abi.NoEscape", "internal/bytealg.IndexByteString", "internal/bytealg.IndexString", "internal/bytealg.CountString", "internal/bytealg.MakeNoZero"], unfollowed := true, recurses := true, named := ["internal/bytealg.MaxLen", "unicode/utf8.first", "unicode/utf8.acceptRanges"], apart := false, laid := [("unicode/utf8.acceptRanges", laid_unicode_utf8_acceptRanges), ("unicode/utf8.first", laid_unicode_utf8_first)] }
def CsvEndsSaid : Prop := csvEndsRow.holds Tryd.pinned (OpenSpec.ofChange csvEndsSpec)

/-- ITS FALSE NEIGHBOUR: 'it returns false'. Refute it at one input. -/
def csvEndsWrong : ChangeSpec := { name := "csvEnds", fn := fun _ => fun
  | [d1, d2, d3] => { results := [.lit (.bool false)], args := [d1, d2, d3] }
  | _ => none }
def CsvEndsWrongFalsely : Prop := csvEndsRow.holds Tryd.pinned (OpenSpec.ofChange csvEndsWrong)

/-- 'corollarylaw28.CsvRow': WHATEVER THE INPUT: true; the input reads as it did. -/
def csvRowSpec : ChangeSpec := { name := "csvRow", fn := fun _ => fun
  | [d1, d2] => { results := [.lit (.bool true)], args := [d1, d2] }
  | _ => none }
def csvRowRow : OpenClaim := { program := "ythmnlmegehaccaadoor", sum := "099367c56ca13b74c5babc1a29e43209cd7f465c7fb5bcb89756756911670d60", func := "corollary/corollarylaw28.CsvRow", spec := "csvRow", inPlace := ["internal/abi.NoEscape", "internal/bytealg.IndexByteString", "internal/bytealg.IndexString", "internal/bytealg.CountString", "internal/bytealg.MakeNoZero"], unfollowed := true, recurses := true, named := ["internal/bytealg.MaxLen", "unicode/utf8.first", "unicode/utf8.acceptRanges"], apart := false, laid := [("unicode/utf8.acceptRanges", laid_unicode_utf8_acceptRanges), ("unicode/utf8.first", laid_unicode_utf8_first)] }
def CsvRowSaid : Prop := csvRowRow.holds Tryd.pinned (OpenSpec.ofChange csvRowSpec)

/-- ITS FALSE NEIGHBOUR: 'it returns false'. Refute it at one input. -/
def csvRowWrong : ChangeSpec := { name := "csvRow", fn := fun _ => fun
  | [d1, d2] => { results := [.lit (.bool false)], args := [d1, d2] }
  | _ => none }
def CsvRowWrongFalsely : Prop := csvRowRow.holds Tryd.pinned (OpenSpec.ofChange csvRowWrong)

/- THE SECOND FORM. 'bulk': how many values and letters a reading holds, each counted each time it is reached (what is shared counts as often as it is met; a slice's spare places count too). A statement '..UptoSaid' is the law's where the arguments, and the package variables that the reading takes, are together of bulk at most 1048576: NARROWER than '..Said'. Prove '..Said' where nothing that the law and all that it calls make is longer than what came in: it says more and counts as full. Else prove '..UptoSaid'. A law counts once. -/
mutual
def uptoBulk {H : Type} : DataW H → Nat
  | .lit (.string bytes) => bytes.length + 1
  | .lit _ => 1
  | .nil => 1
  | .ptr d => uptoBulk d + 1
  | .slice elems spare => uptoBulkAll elems + uptoBulkAll spare + 1
  | .agg parts => uptoBulkAll parts + 1
  | .iface _ d => uptoBulk d + 1
  | .map entries => uptoBulkEntries entries + 1
  | .held _ => 1
def uptoBulkAll {H : Type} : List (DataW H) → Nat
  | [] => 0
  | d :: r => uptoBulk d + uptoBulkAll r
def uptoBulkEntries {H : Type} : List (Lit × DataW H) → Nat
  | [] => 0
  | x :: r => uptoBulkEntry x + uptoBulkEntries r
def uptoBulkEntry {H : Type} : Lit × DataW H → Nat
  | (.string bytes, d) => bytes.length + uptoBulk d + 1
  | (_, d) => uptoBulk d + 1
 end
def uptoSmall : (H : Type) → List (DataW H) → Bool := fun _ ds => decide (uptoBulkAll ds ≤ 1048576)
def OpenSpec.upto (s : _root_.Go.ChangeSpec) : _root_.Go.OpenSpec := { _root_.Go.OpenSpec.ofChange s with cond := some uptoSmall }

/-- 'corollarylaw28.CsvReads', WHERE WHAT IT READS IS OF BULK AT MOST 1048576: true; the input reads as it did. -/
def csvReadsUptoRow : OpenClaim := { program := "ythmnlmegehaccaadoor", sum := "099367c56ca13b74c5babc1a29e43209cd7f465c7fb5bcb89756756911670d60", func := "corollary/corollarylaw28.CsvReads", spec := "csvReads", inPlace := ["internal/abi.NoEscape", "internal/bytealg.IndexByteString", "internal/bytealg.IndexString", "internal/bytealg.CountString", "internal/bytealg.MakeNoZero"], unfollowed := true, recurses := true, named := ["internal/bytealg.MaxLen", "unicode/utf8.first", "unicode/utf8.acceptRanges"], apart := false, laid := [("unicode/utf8.acceptRanges", laid_unicode_utf8_acceptRanges), ("unicode/utf8.first", laid_unicode_utf8_first)], narrowed := true }
def CsvReadsUptoSaid : Prop := csvReadsUptoRow.holds Tryd.pinned (OpenSpec.upto csvReadsSpec)

/-- 'corollarylaw28.CsvWrites', WHERE WHAT IT READS IS OF BULK AT MOST 1048576: true; the input reads as it did. -/
def csvWritesUptoRow : OpenClaim := { program := "ythmnlmegehaccaadoor", sum := "099367c56ca13b74c5babc1a29e43209cd7f465c7fb5bcb89756756911670d60", func := "corollary/corollarylaw28.CsvWrites", spec := "csvWrites", inPlace := ["internal/abi.NoEscape", "internal/bytealg.IndexByteString", "internal/bytealg.IndexString", "internal/bytealg.CountString", "internal/bytealg.MakeNoZero"], unfollowed := true, recurses := true, named := ["internal/bytealg.MaxLen", "unicode/utf8.first", "unicode/utf8.acceptRanges"], apart := false, laid := [("unicode/utf8.acceptRanges", laid_unicode_utf8_acceptRanges), ("unicode/utf8.first", laid_unicode_utf8_first)], narrowed := true }
def CsvWritesUptoSaid : Prop := csvWritesUptoRow.holds Tryd.pinned (OpenSpec.upto csvWritesSpec)

/-- 'corollarylaw28.CsvNames', WHERE WHAT IT READS IS OF BULK AT MOST 1048576: true; the input reads as it did. -/
def csvNamesUptoRow : OpenClaim := { program := "ythmnlmegehaccaadoor", sum := "099367c56ca13b74c5babc1a29e43209cd7f465c7fb5bcb89756756911670d60", func := "corollary/corollarylaw28.CsvNames", spec := "csvNames", inPlace := ["internal/abi.NoEscape", "internal/bytealg.IndexByteString", "internal/bytealg.IndexString", "internal/bytealg.CountString", "internal/bytealg.MakeNoZero"], unfollowed := true, recurses := true, named := ["internal/bytealg.MaxLen", "unicode/utf8.first", "unicode/utf8.acceptRanges"], apart := false, laid := [("unicode/utf8.acceptRanges", laid_unicode_utf8_acceptRanges), ("unicode/utf8.first", laid_unicode_utf8_first)], narrowed := true }
def CsvNamesUptoSaid : Prop := csvNamesUptoRow.holds Tryd.pinned (OpenSpec.upto csvNamesSpec)

/-- 'corollarylaw28.CsvBack', WHERE WHAT IT READS IS OF BULK AT MOST 1048576: true; the input reads as it did. -/
def csvBackUptoRow : OpenClaim := { program := "ythmnlmegehaccaadoor", sum := "099367c56ca13b74c5babc1a29e43209cd7f465c7fb5bcb89756756911670d60", func := "corollary/corollarylaw28.CsvBack", spec := "csvBack", inPlace := ["internal/abi.NoEscape", "internal/bytealg.IndexByteString", "internal/bytealg.IndexString", "internal/bytealg.CountString", "internal/bytealg.MakeNoZero"], unfollowed := true, recurses := true, named := ["internal/bytealg.MaxLen", "unicode/utf8.first", "unicode/utf8.acceptRanges"], apart := false, laid := [("unicode/utf8.acceptRanges", laid_unicode_utf8_acceptRanges), ("unicode/utf8.first", laid_unicode_utf8_first)], narrowed := true }
def CsvBackUptoSaid : Prop := csvBackUptoRow.holds Tryd.pinned (OpenSpec.upto csvBackSpec)

/-- 'corollarylaw28.CsvEnds', WHERE WHAT IT READS IS OF BULK AT MOST 1048576: true; the input reads as it did. -/
def csvEndsUptoRow : OpenClaim := { program := "ythmnlmegehaccaadoor", sum := "099367c56ca13b74c5babc1a29e43209cd7f465c7fb5bcb89756756911670d60", func := "corollary/corollarylaw28.CsvEnds", spec := "csvEnds", inPlace := ["internal/abi.NoEscape", "internal/bytealg.IndexByteString", "internal/bytealg.IndexString", "internal/bytealg.CountString", "internal/bytealg.MakeNoZero"], unfollowed := true, recurses := true, named := ["internal/bytealg.MaxLen", "unicode/utf8.first", "unicode/utf8.acceptRanges"], apart := false, laid := [("unicode/utf8.acceptRanges", laid_unicode_utf8_acceptRanges), ("unicode/utf8.first", laid_unicode_utf8_first)], narrowed := true }
def CsvEndsUptoSaid : Prop := csvEndsUptoRow.holds Tryd.pinned (OpenSpec.upto csvEndsSpec)

/-- 'corollarylaw28.CsvRow', WHERE WHAT IT READS IS OF BULK AT MOST 1048576: true; the input reads as it did. -/
def csvRowUptoRow : OpenClaim := { program := "ythmnlmegehaccaadoor", sum := "099367c56ca13b74c5babc1a29e43209cd7f465c7fb5bcb89756756911670d60", func := "corollary/corollarylaw28.CsvRow", spec := "csvRow", inPlace := ["internal/abi.NoEscape", "internal/bytealg.IndexByteString", "internal/bytealg.IndexString", "internal/bytealg.CountString", "internal/bytealg.MakeNoZero"], unfollowed := true, recurses := true, named := ["internal/bytealg.MaxLen", "unicode/utf8.first", "unicode/utf8.acceptRanges"], apart := false, laid := [("unicode/utf8.acceptRanges", laid_unicode_utf8_acceptRanges), ("unicode/utf8.first", laid_unicode_utf8_first)], narrowed := true }
def CsvRowUptoSaid : Prop := csvRowUptoRow.holds Tryd.pinned (OpenSpec.upto csvRowSpec)

end Rows
end Go.Proofs.YthmnlmegehaccaaDoor
