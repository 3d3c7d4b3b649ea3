/-
  DERIVED. GIVEN WITH THE SEED: THE CARDS: each row of YtgmcalaliipajaaGreatDoorRows.lean that lists a variable, with what it lists TIED to the program's text (the seventh form; the later family's looks); each row that meets fmt, with fmt's text TOLD by the authors' own Lean function (tested against real Go, not proved from fmt's source: count such statements apart). THE CARD IS WHAT COUNTS. Prove the row's statement (the work); the ties are given (YtgmcalaliipajaaGreatDoorTie.lean); close each card by the builder's one call (the guide's Derived/Test/ToyasCard.lean, 'card_holds'). Laid BY PROGRAM, IN A SANDBOX (cutbox-door.mjs). By AI agents, Wed Nov 11 2026. No macro, syntax, notation, axiom, sorry.
-/
import Derived.Test.YtgmcalaliipajaaGreatDoorRows
import GoSem.ClaimSeven
namespace Go.Proofs.YtgmcalaliipajaaGreatDoor
namespace Rows

/-- THE TIED CARD OF 'corollarylaw24.DeltaChanges'. -/
def deltaChangesCard : Claim7 := { stood := { row := deltaChangesRow, standIns := [], harness := (true, "ce39824bdabdcb6590e3ca9c960a44431189523a7d4ac595f2cba755d1f6b9d5"), looks := false }, kinds := [], alts := [], laidByText := true, laidKinds := [.data, .data, .data, .data, .pinned], laidTests := true, laidLooks := .later }
def DeltaChangesCardSaid : Prop := Claim7.holds Tryz.pinned (.plain (OpenSpec.ofChange deltaChangesSpec)) deltaChangesCard

/-- THE TIED CARD OF 'corollarylaw24.DeltaNames'. -/
def deltaNamesCard : Claim7 := { stood := { row := deltaNamesRow, standIns := [], harness := (true, "ce39824bdabdcb6590e3ca9c960a44431189523a7d4ac595f2cba755d1f6b9d5"), looks := false }, kinds := [], alts := [], laidByText := true, laidKinds := [.data, .data, .data, .data, .pinned], laidTests := true, laidLooks := .later }
def DeltaNamesCardSaid : Prop := Claim7.holds Tryz.pinned (.plain (OpenSpec.ofChange deltaNamesSpec)) deltaNamesCard

/-- THE TIED CARD OF 'corollarylaw24.DeltaAdds'. -/
def deltaAddsCard : Claim7 := { stood := { row := deltaAddsRow, standIns := [], harness := (true, "ce39824bdabdcb6590e3ca9c960a44431189523a7d4ac595f2cba755d1f6b9d5"), looks := false }, kinds := [], alts := [], laidByText := true, laidKinds := [.data, .data, .data, .data, .pinned], laidTests := true, laidLooks := .later }
def DeltaAddsCardSaid : Prop := Claim7.holds Tryz.pinned (.plain (OpenSpec.ofChange deltaAddsSpec)) deltaAddsCard

/-- THE TIED CARD OF 'corollarylaw24.DeltaTwice'. -/
def deltaTwiceCard : Claim7 := { stood := { row := deltaTwiceRow, standIns := [], harness := (true, "ce39824bdabdcb6590e3ca9c960a44431189523a7d4ac595f2cba755d1f6b9d5"), looks := false }, kinds := [], alts := [], laidByText := true, laidKinds := [.data, .data, .data, .data, .pinned], laidTests := true, laidLooks := .later }
def DeltaTwiceCardSaid : Prop := Claim7.holds Tryz.pinned (.plain (OpenSpec.ofChange deltaTwiceSpec)) deltaTwiceCard

/-- THE TIED CARD OF 'corollarylaw24.DeltaLinear'. -/
def deltaLinearCard : Claim7 := { stood := { row := deltaLinearRow, standIns := [], harness := (true, "ce39824bdabdcb6590e3ca9c960a44431189523a7d4ac595f2cba755d1f6b9d5"), looks := false }, kinds := [], alts := [], laidByText := true, laidKinds := [.data, .data, .data, .data, .pinned], laidTests := true, laidLooks := .later }
def DeltaLinearCardSaid : Prop := Claim7.holds Tryz.pinned (.plain (OpenSpec.ofChange deltaLinearSpec)) deltaLinearCard

/-- THE SECOND FORM's CARD OF 'corollarylaw24.DeltaChanges'. -/
def deltaChangesUptoCard : Claim7 := { stood := { row := deltaChangesUptoRow, standIns := [], harness := (true, "ce39824bdabdcb6590e3ca9c960a44431189523a7d4ac595f2cba755d1f6b9d5"), looks := false }, kinds := [], alts := [], laidByText := true, laidKinds := [.data, .data, .data, .data, .pinned], laidTests := true, laidLooks := .later }
def DeltaChangesUptoCardSaid : Prop := Claim7.holds Tryz.pinned (.plain (OpenSpec.upto deltaChangesSpec)) deltaChangesUptoCard

/-- THE SECOND FORM's CARD OF 'corollarylaw24.DeltaNames'. -/
def deltaNamesUptoCard : Claim7 := { stood := { row := deltaNamesUptoRow, standIns := [], harness := (true, "ce39824bdabdcb6590e3ca9c960a44431189523a7d4ac595f2cba755d1f6b9d5"), looks := false }, kinds := [], alts := [], laidByText := true, laidKinds := [.data, .data, .data, .data, .pinned], laidTests := true, laidLooks := .later }
def DeltaNamesUptoCardSaid : Prop := Claim7.holds Tryz.pinned (.plain (OpenSpec.upto deltaNamesSpec)) deltaNamesUptoCard

/-- THE SECOND FORM's CARD OF 'corollarylaw24.DeltaAdds'. -/
def deltaAddsUptoCard : Claim7 := { stood := { row := deltaAddsUptoRow, standIns := [], harness := (true, "ce39824bdabdcb6590e3ca9c960a44431189523a7d4ac595f2cba755d1f6b9d5"), looks := false }, kinds := [], alts := [], laidByText := true, laidKinds := [.data, .data, .data, .data, .pinned], laidTests := true, laidLooks := .later }
def DeltaAddsUptoCardSaid : Prop := Claim7.holds Tryz.pinned (.plain (OpenSpec.upto deltaAddsSpec)) deltaAddsUptoCard

/-- THE SECOND FORM's CARD OF 'corollarylaw24.DeltaTwice'. -/
def deltaTwiceUptoCard : Claim7 := { stood := { row := deltaTwiceUptoRow, standIns := [], harness := (true, "ce39824bdabdcb6590e3ca9c960a44431189523a7d4ac595f2cba755d1f6b9d5"), looks := false }, kinds := [], alts := [], laidByText := true, laidKinds := [.data, .data, .data, .data, .pinned], laidTests := true, laidLooks := .later }
def DeltaTwiceUptoCardSaid : Prop := Claim7.holds Tryz.pinned (.plain (OpenSpec.upto deltaTwiceSpec)) deltaTwiceUptoCard

/-- THE SECOND FORM's CARD OF 'corollarylaw24.DeltaLinear'. -/
def deltaLinearUptoCard : Claim7 := { stood := { row := deltaLinearUptoRow, standIns := [], harness := (true, "ce39824bdabdcb6590e3ca9c960a44431189523a7d4ac595f2cba755d1f6b9d5"), looks := false }, kinds := [], alts := [], laidByText := true, laidKinds := [.data, .data, .data, .data, .pinned], laidTests := true, laidLooks := .later }
def DeltaLinearUptoCardSaid : Prop := Claim7.holds Tryz.pinned (.plain (OpenSpec.upto deltaLinearSpec)) deltaLinearUptoCard
end Rows
end Go.Proofs.YtgmcalaliipajaaGreatDoor
