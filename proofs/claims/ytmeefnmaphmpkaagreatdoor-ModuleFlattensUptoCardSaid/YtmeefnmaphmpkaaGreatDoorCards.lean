/-
  DERIVED. GIVEN WITH THE SEED: THE CARDS: each row of YtmeefnmaphmpkaaGreatDoorRows.lean that lists a variable, with what it lists TIED to the program's text (the seventh form; the later family's looks); each row that meets fmt, with fmt's text TOLD by the authors' own Lean function (tested against real Go, not proved from fmt's source: count such statements apart). THE CARD IS WHAT COUNTS. Prove the row's statement (the work); the ties are given (YtmeefnmaphmpkaaGreatDoorTie.lean); close each card by the builder's one call (the guide's Derived/Test/ToyasCard.lean, 'card_holds'). Laid BY PROGRAM, IN A SANDBOX (cutbox-door.mjs). By AI agents, Wed Nov 11 2026. No macro, syntax, notation, axiom, sorry.
-/
import Derived.Test.YtmeefnmaphmpkaaGreatDoorRows
import GoSem.ClaimSeven
namespace Go.Proofs.YtmeefnmaphmpkaaGreatDoor
namespace Rows

/-- THE TIED CARD OF 'corollarylaw08.ModuleNames'. -/
def moduleNamesCard : Claim7 := { stood := { row := moduleNamesRow, standIns := [], harness := (true, "adb7a0698011fb9d3d4d6865bd21027e90d8e109459c4f3f088534e56e214283"), looks := true }, kinds := [], alts := [], laidByText := true, laidKinds := [.data, .pinned], laidTests := true, laidLooks := .later }
def ModuleNamesCardSaid : Prop := Claim7.holds Tryz.pinned (.plain (OpenSpec.ofChange moduleNamesSpec)) moduleNamesCard

/-- THE TIED CARD OF 'corollarylaw08.ModuleFlattens'. -/
def moduleFlattensCard : Claim7 := { stood := { row := moduleFlattensRow, standIns := [], harness := (true, "adb7a0698011fb9d3d4d6865bd21027e90d8e109459c4f3f088534e56e214283"), looks := true }, kinds := [], alts := [], laidByText := true, laidKinds := [.data, .data, .data, .data, .pinned], laidTests := true, laidLooks := .later }
def ModuleFlattensCardSaid : Prop := Claim7.holds Tryz.pinned (.plain (OpenSpec.ofChange moduleFlattensSpec)) moduleFlattensCard

/-- THE TIED CARD OF 'corollarylaw08.ModuleHidden'. -/
def moduleHiddenCard : Claim7 := { stood := { row := moduleHiddenRow, standIns := [], harness := (true, "adb7a0698011fb9d3d4d6865bd21027e90d8e109459c4f3f088534e56e214283"), looks := true }, kinds := [], alts := [], laidByText := true, laidKinds := [.data, .data, .data, .data, .pinned], laidTests := true, laidLooks := .later }
def ModuleHiddenCardSaid : Prop := Claim7.holds Tryz.pinned (.plain (OpenSpec.ofChange moduleHiddenSpec)) moduleHiddenCard

/-- THE TIED CARD OF 'corollarylaw08.ModuleOrder'. -/
def moduleOrderCard : Claim7 := { stood := { row := moduleOrderRow, standIns := [], harness := (true, "adb7a0698011fb9d3d4d6865bd21027e90d8e109459c4f3f088534e56e214283"), looks := true }, kinds := [], alts := [], laidByText := true, laidKinds := [.data, .data, .data, .data, .pinned], laidTests := true, laidLooks := .later }
def ModuleOrderCardSaid : Prop := Claim7.holds Tryz.pinned (.plain (OpenSpec.ofChange moduleOrderSpec)) moduleOrderCard

/-- THE TIED CARD OF 'corollarylaw08.ModuleAhead'. -/
def moduleAheadCard : Claim7 := { stood := { row := moduleAheadRow, standIns := [], harness := (true, "adb7a0698011fb9d3d4d6865bd21027e90d8e109459c4f3f088534e56e214283"), looks := true }, kinds := [], alts := [], laidByText := true, laidKinds := [.data, .data, .data, .data, .pinned], laidTests := true, laidLooks := .later }
def ModuleAheadCardSaid : Prop := Claim7.holds Tryz.pinned (.plain (OpenSpec.ofChange moduleAheadSpec)) moduleAheadCard

/-- THE SECOND FORM's CARD OF 'corollarylaw08.ModuleNames'. -/
def moduleNamesUptoCard : Claim7 := { stood := { row := moduleNamesUptoRow, standIns := [], harness := (true, "adb7a0698011fb9d3d4d6865bd21027e90d8e109459c4f3f088534e56e214283"), looks := true }, kinds := [], alts := [], laidByText := true, laidKinds := [.data, .pinned], laidTests := true, laidLooks := .later }
def ModuleNamesUptoCardSaid : Prop := Claim7.holds Tryz.pinned (.plain (OpenSpec.upto moduleNamesSpec)) moduleNamesUptoCard

/-- THE SECOND FORM's CARD OF 'corollarylaw08.ModuleFlattens'. -/
def moduleFlattensUptoCard : Claim7 := { stood := { row := moduleFlattensUptoRow, standIns := [], harness := (true, "adb7a0698011fb9d3d4d6865bd21027e90d8e109459c4f3f088534e56e214283"), looks := true }, kinds := [], alts := [], laidByText := true, laidKinds := [.data, .data, .data, .data, .pinned], laidTests := true, laidLooks := .later }
def ModuleFlattensUptoCardSaid : Prop := Claim7.holds Tryz.pinned (.plain (OpenSpec.upto moduleFlattensSpec)) moduleFlattensUptoCard

/-- THE SECOND FORM's CARD OF 'corollarylaw08.ModuleHidden'. -/
def moduleHiddenUptoCard : Claim7 := { stood := { row := moduleHiddenUptoRow, standIns := [], harness := (true, "adb7a0698011fb9d3d4d6865bd21027e90d8e109459c4f3f088534e56e214283"), looks := true }, kinds := [], alts := [], laidByText := true, laidKinds := [.data, .data, .data, .data, .pinned], laidTests := true, laidLooks := .later }
def ModuleHiddenUptoCardSaid : Prop := Claim7.holds Tryz.pinned (.plain (OpenSpec.upto moduleHiddenSpec)) moduleHiddenUptoCard

/-- THE SECOND FORM's CARD OF 'corollarylaw08.ModuleOrder'. -/
def moduleOrderUptoCard : Claim7 := { stood := { row := moduleOrderUptoRow, standIns := [], harness := (true, "adb7a0698011fb9d3d4d6865bd21027e90d8e109459c4f3f088534e56e214283"), looks := true }, kinds := [], alts := [], laidByText := true, laidKinds := [.data, .data, .data, .data, .pinned], laidTests := true, laidLooks := .later }
def ModuleOrderUptoCardSaid : Prop := Claim7.holds Tryz.pinned (.plain (OpenSpec.upto moduleOrderSpec)) moduleOrderUptoCard

/-- THE SECOND FORM's CARD OF 'corollarylaw08.ModuleAhead'. -/
def moduleAheadUptoCard : Claim7 := { stood := { row := moduleAheadUptoRow, standIns := [], harness := (true, "adb7a0698011fb9d3d4d6865bd21027e90d8e109459c4f3f088534e56e214283"), looks := true }, kinds := [], alts := [], laidByText := true, laidKinds := [.data, .data, .data, .data, .pinned], laidTests := true, laidLooks := .later }
def ModuleAheadUptoCardSaid : Prop := Claim7.holds Tryz.pinned (.plain (OpenSpec.upto moduleAheadSpec)) moduleAheadUptoCard
end Rows
end Go.Proofs.YtmeefnmaphmpkaaGreatDoor
