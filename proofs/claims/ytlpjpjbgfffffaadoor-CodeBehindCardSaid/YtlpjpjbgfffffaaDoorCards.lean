/-
  DERIVED. GIVEN WITH THE SEED: THE CARDS: each row of YtlpjpjbgfffffaaDoorRows.lean that lists a variable, with what it lists TIED to the program's text (the seventh form; the later family's looks); each row that meets fmt, with fmt's text TOLD by the authors' own Lean function (tested against real Go, not proved from fmt's source: count such statements apart). THE CARD IS WHAT COUNTS. Prove the row's statement (the work); the ties are given (YtlpjpjbgfffffaaDoorTie.lean); close each card by the builder's one call (the guide's Derived/Test/ToyasCard.lean, 'card_holds'). Laid BY PROGRAM, IN A SANDBOX (cutbox-door.mjs). By AI agents, Wed Nov 11 2026. No macro, syntax, notation, axiom, sorry.
-/
import Derived.Test.YtlpjpjbgfffffaaDoorRows
import GoSem.ClaimSeven
namespace Go.Proofs.YtlpjpjbgfffffaaDoor
namespace Rows

/-- THE TIED CARD OF 'corollarylaw03.CodePuts'. -/
def codePutsCard : Claim7 := { stood := { row := codePutsRow, standIns := [], harness := (true, "f186387fe1e8eda2373abc327b4c92e8397116350a042bf883d4f5728c99d65f"), looks := false }, kinds := [], alts := [], laidByText := true, laidKinds := [.data, .pinned], laidTests := true, laidLooks := .later }
def CodePutsCardSaid : Prop := Claim7.holds Tryd.pinned (.plain (OpenSpec.ofChange codePutsSpec)) codePutsCard

/-- THE TIED CARD OF 'corollarylaw03.CodeOrder'. -/
def codeOrderCard : Claim7 := { stood := { row := codeOrderRow, standIns := [], harness := (true, "f186387fe1e8eda2373abc327b4c92e8397116350a042bf883d4f5728c99d65f"), looks := false }, kinds := [], alts := [], laidByText := true, laidKinds := [.data, .pinned], laidTests := true, laidLooks := .later }
def CodeOrderCardSaid : Prop := Claim7.holds Tryd.pinned (.plain (OpenSpec.ofChange codeOrderSpec)) codeOrderCard

/-- THE TIED CARD OF 'corollarylaw03.CodeRows'. -/
def codeRowsCard : Claim7 := { stood := { row := codeRowsRow, standIns := [], harness := (true, "f186387fe1e8eda2373abc327b4c92e8397116350a042bf883d4f5728c99d65f"), looks := false }, kinds := [], alts := [], laidByText := true, laidKinds := [.data, .pinned], laidTests := true, laidLooks := .later }
def CodeRowsCardSaid : Prop := Claim7.holds Tryd.pinned (.plain (OpenSpec.ofChange codeRowsSpec)) codeRowsCard

/-- THE TIED CARD OF 'corollarylaw03.CodeBehind'. -/
def codeBehindCard : Claim7 := { stood := { row := codeBehindRow, standIns := [], harness := (true, "f186387fe1e8eda2373abc327b4c92e8397116350a042bf883d4f5728c99d65f"), looks := false }, kinds := [], alts := [], laidByText := true, laidKinds := [.data, .pinned], laidTests := true, laidLooks := .later }
def CodeBehindCardSaid : Prop := Claim7.holds Tryd.pinned (.plain (OpenSpec.ofChange codeBehindSpec)) codeBehindCard

/-- THE TIED CARD OF 'corollarylaw03.CodeNames'. -/
def codeNamesCard : Claim7 := { stood := { row := codeNamesRow, standIns := [], harness := (true, "f186387fe1e8eda2373abc327b4c92e8397116350a042bf883d4f5728c99d65f"), looks := false }, kinds := [], alts := [], laidByText := true, laidKinds := [.data, .pinned], laidTests := true, laidLooks := .later }
def CodeNamesCardSaid : Prop := Claim7.holds Tryd.pinned (.plain (OpenSpec.ofChange codeNamesSpec)) codeNamesCard

/-- THE TIED CARD OF 'corollarylaw03.CodeApart'. -/
def codeApartCard : Claim7 := { stood := { row := codeApartRow, standIns := [], harness := (true, "f186387fe1e8eda2373abc327b4c92e8397116350a042bf883d4f5728c99d65f"), looks := false }, kinds := [], alts := [], laidByText := true, laidKinds := [.data, .pinned], laidTests := true, laidLooks := .later }
def CodeApartCardSaid : Prop := Claim7.holds Tryd.pinned (.plain (OpenSpec.ofChange codeApartSpec)) codeApartCard

/-- THE TIED CARD OF 'corollarylaw03.CodeAmong'. -/
def codeAmongCard : Claim7 := { stood := { row := codeAmongRow, standIns := [], harness := (true, "f186387fe1e8eda2373abc327b4c92e8397116350a042bf883d4f5728c99d65f"), looks := false }, kinds := [], alts := [], laidByText := true, laidKinds := [.data, .pinned], laidTests := true, laidLooks := .later }
def CodeAmongCardSaid : Prop := Claim7.holds Tryd.pinned (.plain (OpenSpec.ofChange codeAmongSpec)) codeAmongCard

/-- THE SECOND FORM's CARD OF 'corollarylaw03.CodePuts'. -/
def codePutsUptoCard : Claim7 := { stood := { row := codePutsUptoRow, standIns := [], harness := (true, "f186387fe1e8eda2373abc327b4c92e8397116350a042bf883d4f5728c99d65f"), looks := false }, kinds := [], alts := [], laidByText := true, laidKinds := [.data, .pinned], laidTests := true, laidLooks := .later }
def CodePutsUptoCardSaid : Prop := Claim7.holds Tryd.pinned (.plain (OpenSpec.upto codePutsSpec)) codePutsUptoCard

/-- THE SECOND FORM's CARD OF 'corollarylaw03.CodeOrder'. -/
def codeOrderUptoCard : Claim7 := { stood := { row := codeOrderUptoRow, standIns := [], harness := (true, "f186387fe1e8eda2373abc327b4c92e8397116350a042bf883d4f5728c99d65f"), looks := false }, kinds := [], alts := [], laidByText := true, laidKinds := [.data, .pinned], laidTests := true, laidLooks := .later }
def CodeOrderUptoCardSaid : Prop := Claim7.holds Tryd.pinned (.plain (OpenSpec.upto codeOrderSpec)) codeOrderUptoCard

/-- THE SECOND FORM's CARD OF 'corollarylaw03.CodeRows'. -/
def codeRowsUptoCard : Claim7 := { stood := { row := codeRowsUptoRow, standIns := [], harness := (true, "f186387fe1e8eda2373abc327b4c92e8397116350a042bf883d4f5728c99d65f"), looks := false }, kinds := [], alts := [], laidByText := true, laidKinds := [.data, .pinned], laidTests := true, laidLooks := .later }
def CodeRowsUptoCardSaid : Prop := Claim7.holds Tryd.pinned (.plain (OpenSpec.upto codeRowsSpec)) codeRowsUptoCard

/-- THE SECOND FORM's CARD OF 'corollarylaw03.CodeBehind'. -/
def codeBehindUptoCard : Claim7 := { stood := { row := codeBehindUptoRow, standIns := [], harness := (true, "f186387fe1e8eda2373abc327b4c92e8397116350a042bf883d4f5728c99d65f"), looks := false }, kinds := [], alts := [], laidByText := true, laidKinds := [.data, .pinned], laidTests := true, laidLooks := .later }
def CodeBehindUptoCardSaid : Prop := Claim7.holds Tryd.pinned (.plain (OpenSpec.upto codeBehindSpec)) codeBehindUptoCard

/-- THE SECOND FORM's CARD OF 'corollarylaw03.CodeNames'. -/
def codeNamesUptoCard : Claim7 := { stood := { row := codeNamesUptoRow, standIns := [], harness := (true, "f186387fe1e8eda2373abc327b4c92e8397116350a042bf883d4f5728c99d65f"), looks := false }, kinds := [], alts := [], laidByText := true, laidKinds := [.data, .pinned], laidTests := true, laidLooks := .later }
def CodeNamesUptoCardSaid : Prop := Claim7.holds Tryd.pinned (.plain (OpenSpec.upto codeNamesSpec)) codeNamesUptoCard

/-- THE SECOND FORM's CARD OF 'corollarylaw03.CodeApart'. -/
def codeApartUptoCard : Claim7 := { stood := { row := codeApartUptoRow, standIns := [], harness := (true, "f186387fe1e8eda2373abc327b4c92e8397116350a042bf883d4f5728c99d65f"), looks := false }, kinds := [], alts := [], laidByText := true, laidKinds := [.data, .pinned], laidTests := true, laidLooks := .later }
def CodeApartUptoCardSaid : Prop := Claim7.holds Tryd.pinned (.plain (OpenSpec.upto codeApartSpec)) codeApartUptoCard

/-- THE SECOND FORM's CARD OF 'corollarylaw03.CodeAmong'. -/
def codeAmongUptoCard : Claim7 := { stood := { row := codeAmongUptoRow, standIns := [], harness := (true, "f186387fe1e8eda2373abc327b4c92e8397116350a042bf883d4f5728c99d65f"), looks := false }, kinds := [], alts := [], laidByText := true, laidKinds := [.data, .pinned], laidTests := true, laidLooks := .later }
def CodeAmongUptoCardSaid : Prop := Claim7.holds Tryd.pinned (.plain (OpenSpec.upto codeAmongSpec)) codeAmongUptoCard
end Rows
end Go.Proofs.YtlpjpjbgfffffaaDoor
