/-
  DERIVED. GIVEN WITH THE SEED: THE CARDS: each row of YtnpkgflmjibkeaaGreatDoorRows.lean that lists a variable, with what it lists TIED to the program's text (the seventh form; the later family's looks); each row that meets fmt, with fmt's text TOLD by the authors' own Lean function (tested against real Go, not proved from fmt's source: count such statements apart). THE CARD IS WHAT COUNTS. Prove the row's statement (the work); the ties are given (YtnpkgflmjibkeaaGreatDoorTie.lean); close each card by the builder's one call (the guide's Derived/Test/ToyasCard.lean, 'card_holds'). Laid BY PROGRAM, IN A SANDBOX (cutbox-door.mjs). By AI agents, Wed Nov 11 2026. No macro, syntax, notation, axiom, sorry.
-/
import Derived.Test.YtnpkgflmjibkeaaGreatDoorRows
import GoSem.ClaimSeven
namespace Go.Proofs.YtnpkgflmjibkeaaGreatDoor
namespace Rows

/-- THE TIED CARD OF 'corollarylaw18.UndoBack'. -/
def undoBackCard : Claim7 := { stood := { row := undoBackRow, standIns := [], harness := (true, "9e8c71f41460d3f70f3b508784e5d0fd0ec56ed1f2c0eb9b6311ed7bf1534ea6"), looks := false }, kinds := [], alts := [], laidByText := true, laidKinds := [.data, .data, .data, .data, .pinned], laidTests := true, laidLooks := .later }
def UndoBackCardSaid : Prop := Claim7.holds Tryz.pinned (.plain (OpenSpec.ofChange undoBackSpec)) undoBackCard

/-- THE TIED CARD OF 'corollarylaw18.UndoPlays'. -/
def undoPlaysCard : Claim7 := { stood := { row := undoPlaysRow, standIns := [], harness := (true, "9e8c71f41460d3f70f3b508784e5d0fd0ec56ed1f2c0eb9b6311ed7bf1534ea6"), looks := false }, kinds := [], alts := [], laidByText := true, laidKinds := [.data, .data, .data, .data, .pinned], laidTests := true, laidLooks := .later }
def UndoPlaysCardSaid : Prop := Claim7.holds Tryz.pinned (.plain (OpenSpec.ofChange undoPlaysSpec)) undoPlaysCard

/-- THE TIED CARD OF 'corollarylaw18.UndoNames'. -/
def undoNamesCard : Claim7 := { stood := { row := undoNamesRow, standIns := [], harness := (true, "9e8c71f41460d3f70f3b508784e5d0fd0ec56ed1f2c0eb9b6311ed7bf1534ea6"), looks := false }, kinds := [], alts := [], laidByText := true, laidKinds := [.data, .data, .data, .data, .pinned], laidTests := true, laidLooks := .later }
def UndoNamesCardSaid : Prop := Claim7.holds Tryz.pinned (.plain (OpenSpec.ofChange undoNamesSpec)) undoNamesCard

/-- THE TIED CARD OF 'corollarylaw18.UndoForgets'. -/
def undoForgetsCard : Claim7 := { stood := { row := undoForgetsRow, standIns := [], harness := (true, "9e8c71f41460d3f70f3b508784e5d0fd0ec56ed1f2c0eb9b6311ed7bf1534ea6"), looks := false }, kinds := [], alts := [], laidByText := true, laidKinds := [.data, .data, .data, .data, .pinned], laidTests := true, laidLooks := .later }
def UndoForgetsCardSaid : Prop := Claim7.holds Tryz.pinned (.plain (OpenSpec.ofChange undoForgetsSpec)) undoForgetsCard

/-- THE SECOND FORM's CARD OF 'corollarylaw18.UndoBack'. -/
def undoBackUptoCard : Claim7 := { stood := { row := undoBackUptoRow, standIns := [], harness := (true, "9e8c71f41460d3f70f3b508784e5d0fd0ec56ed1f2c0eb9b6311ed7bf1534ea6"), looks := false }, kinds := [], alts := [], laidByText := true, laidKinds := [.data, .data, .data, .data, .pinned], laidTests := true, laidLooks := .later }
def UndoBackUptoCardSaid : Prop := Claim7.holds Tryz.pinned (.plain (OpenSpec.upto undoBackSpec)) undoBackUptoCard

/-- THE SECOND FORM's CARD OF 'corollarylaw18.UndoPlays'. -/
def undoPlaysUptoCard : Claim7 := { stood := { row := undoPlaysUptoRow, standIns := [], harness := (true, "9e8c71f41460d3f70f3b508784e5d0fd0ec56ed1f2c0eb9b6311ed7bf1534ea6"), looks := false }, kinds := [], alts := [], laidByText := true, laidKinds := [.data, .data, .data, .data, .pinned], laidTests := true, laidLooks := .later }
def UndoPlaysUptoCardSaid : Prop := Claim7.holds Tryz.pinned (.plain (OpenSpec.upto undoPlaysSpec)) undoPlaysUptoCard

/-- THE SECOND FORM's CARD OF 'corollarylaw18.UndoNames'. -/
def undoNamesUptoCard : Claim7 := { stood := { row := undoNamesUptoRow, standIns := [], harness := (true, "9e8c71f41460d3f70f3b508784e5d0fd0ec56ed1f2c0eb9b6311ed7bf1534ea6"), looks := false }, kinds := [], alts := [], laidByText := true, laidKinds := [.data, .data, .data, .data, .pinned], laidTests := true, laidLooks := .later }
def UndoNamesUptoCardSaid : Prop := Claim7.holds Tryz.pinned (.plain (OpenSpec.upto undoNamesSpec)) undoNamesUptoCard

/-- THE SECOND FORM's CARD OF 'corollarylaw18.UndoForgets'. -/
def undoForgetsUptoCard : Claim7 := { stood := { row := undoForgetsUptoRow, standIns := [], harness := (true, "9e8c71f41460d3f70f3b508784e5d0fd0ec56ed1f2c0eb9b6311ed7bf1534ea6"), looks := false }, kinds := [], alts := [], laidByText := true, laidKinds := [.data, .data, .data, .data, .pinned], laidTests := true, laidLooks := .later }
def UndoForgetsUptoCardSaid : Prop := Claim7.holds Tryz.pinned (.plain (OpenSpec.upto undoForgetsSpec)) undoForgetsUptoCard
end Rows
end Go.Proofs.YtnpkgflmjibkeaaGreatDoor
