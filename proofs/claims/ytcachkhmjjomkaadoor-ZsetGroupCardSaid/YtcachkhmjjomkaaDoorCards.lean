/-
  DERIVED. GIVEN WITH THE SEED: THE CARDS: each row of YtcachkhmjjomkaaDoorRows.lean that lists a variable, with what it lists TIED to the program's text (the seventh form; the later family's looks); each row that meets fmt, with fmt's text TOLD by the authors' own Lean function (tested against real Go, not proved from fmt's source: count such statements apart). THE CARD IS WHAT COUNTS. Prove the row's statement (the work); the ties are given (YtcachkhmjjomkaaDoorTie.lean); close each card by the builder's one call (the guide's Derived/Test/ToyasCard.lean, 'card_holds'). Laid BY PROGRAM, IN A SANDBOX (cutbox-door.mjs). By AI agents, Wed Nov 11 2026. No macro, syntax, notation, axiom, sorry.
-/
import Derived.Test.YtcachkhmjjomkaaDoorRows
import GoSem.ClaimSeven
namespace Go.Proofs.YtcachkhmjjomkaaDoor
namespace Rows

/-- THE TIED CARD OF 'corollarylaw16.ZsetNames'. -/
def zsetNamesCard : Claim7 := { stood := { row := zsetNamesRow, standIns := [], harness := (true, "0e4152616b231c9c34bec3b89548b2e9adfdfa02f0905cc44fefa1251c2d7f1a"), looks := false }, kinds := [], alts := [], laidByText := true, laidKinds := [.data, .pinned], laidTests := true, laidLooks := .later }
def ZsetNamesCardSaid : Prop := Claim7.holds Tryd.pinned (.plain (OpenSpec.ofChange zsetNamesSpec)) zsetNamesCard

/-- THE TIED CARD OF 'corollarylaw16.ZsetGroup'. -/
def zsetGroupCard : Claim7 := { stood := { row := zsetGroupRow, standIns := [], harness := (true, "0e4152616b231c9c34bec3b89548b2e9adfdfa02f0905cc44fefa1251c2d7f1a"), looks := false }, kinds := [], alts := [], laidByText := true, laidKinds := [.data, .pinned], laidTests := true, laidLooks := .later }
def ZsetGroupCardSaid : Prop := Claim7.holds Tryd.pinned (.plain (OpenSpec.ofChange zsetGroupSpec)) zsetGroupCard

/-- THE SECOND FORM's CARD OF 'corollarylaw16.ZsetNames'. -/
def zsetNamesUptoCard : Claim7 := { stood := { row := zsetNamesUptoRow, standIns := [], harness := (true, "0e4152616b231c9c34bec3b89548b2e9adfdfa02f0905cc44fefa1251c2d7f1a"), looks := false }, kinds := [], alts := [], laidByText := true, laidKinds := [.data, .pinned], laidTests := true, laidLooks := .later }
def ZsetNamesUptoCardSaid : Prop := Claim7.holds Tryd.pinned (.plain (OpenSpec.upto zsetNamesSpec)) zsetNamesUptoCard

/-- THE SECOND FORM's CARD OF 'corollarylaw16.ZsetGroup'. -/
def zsetGroupUptoCard : Claim7 := { stood := { row := zsetGroupUptoRow, standIns := [], harness := (true, "0e4152616b231c9c34bec3b89548b2e9adfdfa02f0905cc44fefa1251c2d7f1a"), looks := false }, kinds := [], alts := [], laidByText := true, laidKinds := [.data, .pinned], laidTests := true, laidLooks := .later }
def ZsetGroupUptoCardSaid : Prop := Claim7.holds Tryd.pinned (.plain (OpenSpec.upto zsetGroupSpec)) zsetGroupUptoCard
end Rows
end Go.Proofs.YtcachkhmjjomkaaDoor
