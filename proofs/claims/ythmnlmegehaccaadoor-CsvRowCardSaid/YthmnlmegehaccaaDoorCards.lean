/-
  DERIVED. GIVEN WITH THE SEED: THE CARDS: each row of YthmnlmegehaccaaDoorRows.lean that lists a variable, with what it lists TIED to the program's text (the seventh form; the later family's looks); each row that meets fmt, with fmt's text TOLD by the authors' own Lean function (tested against real Go, not proved from fmt's source: count such statements apart). THE CARD IS WHAT COUNTS. Prove the row's statement (the work); the ties are given (YthmnlmegehaccaaDoorTie.lean); close each card by the builder's one call (the guide's Derived/Test/ToyasCard.lean, 'card_holds'). Laid BY PROGRAM, IN A SANDBOX (cutbox-door.mjs). By AI agents, Wed Nov 11 2026. No macro, syntax, notation, axiom, sorry.
-/
import Derived.Test.YthmnlmegehaccaaDoorRows
import GoSem.ClaimSeven
namespace Go.Proofs.YthmnlmegehaccaaDoor
namespace Rows

/-- THE TIED CARD OF 'corollarylaw28.CsvReads'. -/
def csvReadsCard : Claim7 := { stood := { row := csvReadsRow, standIns := [], harness := (true, "ea644de0ec8d80f49cdf0686502d50c1379adf272c0046f2e5207db860fb561e"), looks := false }, kinds := [], alts := [], laidByText := true, laidKinds := [.data, .pinned], laidTests := true, laidLooks := .later }
def CsvReadsCardSaid : Prop := Claim7.holds Tryd.pinned (.plain (OpenSpec.ofChange csvReadsSpec)) csvReadsCard

/-- THE TIED CARD OF 'corollarylaw28.CsvWrites'. -/
def csvWritesCard : Claim7 := { stood := { row := csvWritesRow, standIns := [], harness := (true, "ea644de0ec8d80f49cdf0686502d50c1379adf272c0046f2e5207db860fb561e"), looks := false }, kinds := [], alts := [], laidByText := true, laidKinds := [.data, .pinned], laidTests := true, laidLooks := .later }
def CsvWritesCardSaid : Prop := Claim7.holds Tryd.pinned (.plain (OpenSpec.ofChange csvWritesSpec)) csvWritesCard

/-- THE TIED CARD OF 'corollarylaw28.CsvNames'. -/
def csvNamesCard : Claim7 := { stood := { row := csvNamesRow, standIns := [], harness := (true, "ea644de0ec8d80f49cdf0686502d50c1379adf272c0046f2e5207db860fb561e"), looks := false }, kinds := [], alts := [], laidByText := true, laidKinds := [.data, .pinned], laidTests := true, laidLooks := .later }
def CsvNamesCardSaid : Prop := Claim7.holds Tryd.pinned (.plain (OpenSpec.ofChange csvNamesSpec)) csvNamesCard

/-- THE TIED CARD OF 'corollarylaw28.CsvBack'. -/
def csvBackCard : Claim7 := { stood := { row := csvBackRow, standIns := [], harness := (true, "ea644de0ec8d80f49cdf0686502d50c1379adf272c0046f2e5207db860fb561e"), looks := false }, kinds := [], alts := [], laidByText := true, laidKinds := [.data, .pinned], laidTests := true, laidLooks := .later }
def CsvBackCardSaid : Prop := Claim7.holds Tryd.pinned (.plain (OpenSpec.ofChange csvBackSpec)) csvBackCard

/-- THE TIED CARD OF 'corollarylaw28.CsvEnds'. -/
def csvEndsCard : Claim7 := { stood := { row := csvEndsRow, standIns := [], harness := (true, "ea644de0ec8d80f49cdf0686502d50c1379adf272c0046f2e5207db860fb561e"), looks := false }, kinds := [], alts := [], laidByText := true, laidKinds := [.data, .pinned], laidTests := true, laidLooks := .later }
def CsvEndsCardSaid : Prop := Claim7.holds Tryd.pinned (.plain (OpenSpec.ofChange csvEndsSpec)) csvEndsCard

/-- THE TIED CARD OF 'corollarylaw28.CsvRow'. -/
def csvRowCard : Claim7 := { stood := { row := csvRowRow, standIns := [], harness := (true, "ea644de0ec8d80f49cdf0686502d50c1379adf272c0046f2e5207db860fb561e"), looks := false }, kinds := [], alts := [], laidByText := true, laidKinds := [.data, .pinned], laidTests := true, laidLooks := .later }
def CsvRowCardSaid : Prop := Claim7.holds Tryd.pinned (.plain (OpenSpec.ofChange csvRowSpec)) csvRowCard

/-- THE SECOND FORM's CARD OF 'corollarylaw28.CsvReads'. -/
def csvReadsUptoCard : Claim7 := { stood := { row := csvReadsUptoRow, standIns := [], harness := (true, "ea644de0ec8d80f49cdf0686502d50c1379adf272c0046f2e5207db860fb561e"), looks := false }, kinds := [], alts := [], laidByText := true, laidKinds := [.data, .pinned], laidTests := true, laidLooks := .later }
def CsvReadsUptoCardSaid : Prop := Claim7.holds Tryd.pinned (.plain (OpenSpec.upto csvReadsSpec)) csvReadsUptoCard

/-- THE SECOND FORM's CARD OF 'corollarylaw28.CsvWrites'. -/
def csvWritesUptoCard : Claim7 := { stood := { row := csvWritesUptoRow, standIns := [], harness := (true, "ea644de0ec8d80f49cdf0686502d50c1379adf272c0046f2e5207db860fb561e"), looks := false }, kinds := [], alts := [], laidByText := true, laidKinds := [.data, .pinned], laidTests := true, laidLooks := .later }
def CsvWritesUptoCardSaid : Prop := Claim7.holds Tryd.pinned (.plain (OpenSpec.upto csvWritesSpec)) csvWritesUptoCard

/-- THE SECOND FORM's CARD OF 'corollarylaw28.CsvNames'. -/
def csvNamesUptoCard : Claim7 := { stood := { row := csvNamesUptoRow, standIns := [], harness := (true, "ea644de0ec8d80f49cdf0686502d50c1379adf272c0046f2e5207db860fb561e"), looks := false }, kinds := [], alts := [], laidByText := true, laidKinds := [.data, .pinned], laidTests := true, laidLooks := .later }
def CsvNamesUptoCardSaid : Prop := Claim7.holds Tryd.pinned (.plain (OpenSpec.upto csvNamesSpec)) csvNamesUptoCard

/-- THE SECOND FORM's CARD OF 'corollarylaw28.CsvBack'. -/
def csvBackUptoCard : Claim7 := { stood := { row := csvBackUptoRow, standIns := [], harness := (true, "ea644de0ec8d80f49cdf0686502d50c1379adf272c0046f2e5207db860fb561e"), looks := false }, kinds := [], alts := [], laidByText := true, laidKinds := [.data, .pinned], laidTests := true, laidLooks := .later }
def CsvBackUptoCardSaid : Prop := Claim7.holds Tryd.pinned (.plain (OpenSpec.upto csvBackSpec)) csvBackUptoCard

/-- THE SECOND FORM's CARD OF 'corollarylaw28.CsvEnds'. -/
def csvEndsUptoCard : Claim7 := { stood := { row := csvEndsUptoRow, standIns := [], harness := (true, "ea644de0ec8d80f49cdf0686502d50c1379adf272c0046f2e5207db860fb561e"), looks := false }, kinds := [], alts := [], laidByText := true, laidKinds := [.data, .pinned], laidTests := true, laidLooks := .later }
def CsvEndsUptoCardSaid : Prop := Claim7.holds Tryd.pinned (.plain (OpenSpec.upto csvEndsSpec)) csvEndsUptoCard

/-- THE SECOND FORM's CARD OF 'corollarylaw28.CsvRow'. -/
def csvRowUptoCard : Claim7 := { stood := { row := csvRowUptoRow, standIns := [], harness := (true, "ea644de0ec8d80f49cdf0686502d50c1379adf272c0046f2e5207db860fb561e"), looks := false }, kinds := [], alts := [], laidByText := true, laidKinds := [.data, .pinned], laidTests := true, laidLooks := .later }
def CsvRowUptoCardSaid : Prop := Claim7.holds Tryd.pinned (.plain (OpenSpec.upto csvRowSpec)) csvRowUptoCard
end Rows
end Go.Proofs.YthmnlmegehaccaaDoor
