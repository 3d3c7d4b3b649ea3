/-
  DERIVED. GIVEN WITH THE SEED: THE CARDS: each row of YtjafihegefejdaaGreatDoorRows.lean that lists a variable, with what it lists TIED to the program's text (the seventh form; the later family's looks); each row that meets fmt, with fmt's text TOLD by the authors' own Lean function (tested against real Go, not proved from fmt's source: count such statements apart). THE CARD IS WHAT COUNTS. Prove the row's statement (the work); the ties are given (YtjafihegefejdaaGreatDoorTie.lean); close each card by the builder's one call (the guide's Derived/Test/ToyasCard.lean, 'card_holds'). Laid BY PROGRAM, IN A SANDBOX (cutbox-door.mjs). By AI agents, Wed Nov 11 2026. No macro, syntax, notation, axiom, sorry.
-/
import Derived.Test.YtjafihegefejdaaGreatDoorRows
import GoSem.ClaimSeven
namespace Go.Proofs.YtjafihegefejdaaGreatDoor
namespace Rows

/-- THE TIED CARD OF 'corollarylaw17.IndexLooks'. -/
def indexLooksCard : Claim7 := { stood := { row := indexLooksRow, standIns := [], harness := (true, "9aff4e810fde03d7c764dd86aee64071b9ef864751e5684bf352c9eb970f49f2"), looks := true }, kinds := [], alts := [], laidByText := true, laidKinds := [.data, .data, .data, .data, .pinned], laidTests := true, laidLooks := .later }
def IndexLooksCardSaid : Prop := Claim7.holds Tryz.pinned (.plain (OpenSpec.ofChange indexLooksSpec)) indexLooksCard

/-- THE TIED CARD OF 'corollarylaw17.IndexSet'. -/
def indexSetCard : Claim7 := { stood := { row := indexSetRow, standIns := [], harness := (true, "9aff4e810fde03d7c764dd86aee64071b9ef864751e5684bf352c9eb970f49f2"), looks := true }, kinds := [], alts := [], laidByText := true, laidKinds := [.data, .data, .data, .data, .pinned], laidTests := true, laidLooks := .later }
def IndexSetCardSaid : Prop := Claim7.holds Tryz.pinned (.plain (OpenSpec.ofChange indexSetSpec)) indexSetCard

/-- THE TIED CARD OF 'corollarylaw17.IndexNames'. -/
def indexNamesCard : Claim7 := { stood := { row := indexNamesRow, standIns := [], harness := (true, "9aff4e810fde03d7c764dd86aee64071b9ef864751e5684bf352c9eb970f49f2"), looks := true }, kinds := [], alts := [], laidByText := true, laidKinds := [.data, .data, .data, .data, .pinned], laidTests := true, laidLooks := .later }
def IndexNamesCardSaid : Prop := Claim7.holds Tryz.pinned (.plain (OpenSpec.ofChange indexNamesSpec)) indexNamesCard

/-- THE TIED CARD OF 'corollarylaw17.IndexPlays'. -/
def indexPlaysCard : Claim7 := { stood := { row := indexPlaysRow, standIns := [], harness := (true, "9aff4e810fde03d7c764dd86aee64071b9ef864751e5684bf352c9eb970f49f2"), looks := true }, kinds := [], alts := [], laidByText := true, laidKinds := [.data, .data, .data, .data, .pinned], laidTests := true, laidLooks := .later }
def IndexPlaysCardSaid : Prop := Claim7.holds Tryz.pinned (.plain (OpenSpec.ofChange indexPlaysSpec)) indexPlaysCard

/-- THE SECOND FORM's CARD OF 'corollarylaw17.IndexLooks'. -/
def indexLooksUptoCard : Claim7 := { stood := { row := indexLooksUptoRow, standIns := [], harness := (true, "9aff4e810fde03d7c764dd86aee64071b9ef864751e5684bf352c9eb970f49f2"), looks := true }, kinds := [], alts := [], laidByText := true, laidKinds := [.data, .data, .data, .data, .pinned], laidTests := true, laidLooks := .later }
def IndexLooksUptoCardSaid : Prop := Claim7.holds Tryz.pinned (.plain (OpenSpec.upto indexLooksSpec)) indexLooksUptoCard

/-- THE SECOND FORM's CARD OF 'corollarylaw17.IndexSet'. -/
def indexSetUptoCard : Claim7 := { stood := { row := indexSetUptoRow, standIns := [], harness := (true, "9aff4e810fde03d7c764dd86aee64071b9ef864751e5684bf352c9eb970f49f2"), looks := true }, kinds := [], alts := [], laidByText := true, laidKinds := [.data, .data, .data, .data, .pinned], laidTests := true, laidLooks := .later }
def IndexSetUptoCardSaid : Prop := Claim7.holds Tryz.pinned (.plain (OpenSpec.upto indexSetSpec)) indexSetUptoCard

/-- THE SECOND FORM's CARD OF 'corollarylaw17.IndexNames'. -/
def indexNamesUptoCard : Claim7 := { stood := { row := indexNamesUptoRow, standIns := [], harness := (true, "9aff4e810fde03d7c764dd86aee64071b9ef864751e5684bf352c9eb970f49f2"), looks := true }, kinds := [], alts := [], laidByText := true, laidKinds := [.data, .data, .data, .data, .pinned], laidTests := true, laidLooks := .later }
def IndexNamesUptoCardSaid : Prop := Claim7.holds Tryz.pinned (.plain (OpenSpec.upto indexNamesSpec)) indexNamesUptoCard

/-- THE SECOND FORM's CARD OF 'corollarylaw17.IndexPlays'. -/
def indexPlaysUptoCard : Claim7 := { stood := { row := indexPlaysUptoRow, standIns := [], harness := (true, "9aff4e810fde03d7c764dd86aee64071b9ef864751e5684bf352c9eb970f49f2"), looks := true }, kinds := [], alts := [], laidByText := true, laidKinds := [.data, .data, .data, .data, .pinned], laidTests := true, laidLooks := .later }
def IndexPlaysUptoCardSaid : Prop := Claim7.holds Tryz.pinned (.plain (OpenSpec.upto indexPlaysSpec)) indexPlaysUptoCard
end Rows
end Go.Proofs.YtjafihegefejdaaGreatDoor
