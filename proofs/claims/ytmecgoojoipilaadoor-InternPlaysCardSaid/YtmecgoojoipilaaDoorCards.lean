/-
  DERIVED. GIVEN WITH THE SEED: THE CARDS: each row of YtmecgoojoipilaaDoorRows.lean that lists a variable, with what it lists TIED to the program's text (the seventh form; the later family's looks); each row that meets fmt, with fmt's text TOLD by the authors' own Lean function (tested against real Go, not proved from fmt's source: count such statements apart). THE CARD IS WHAT COUNTS. Prove the row's statement (the work); the ties are given (YtmecgoojoipilaaDoorTie.lean); close each card by the builder's one call (the guide's Derived/Test/ToyasCard.lean, 'card_holds'). Laid BY PROGRAM, IN A SANDBOX (cutbox-door.mjs). By AI agents, Wed Nov 11 2026. No macro, syntax, notation, axiom, sorry.
-/
import Derived.Test.YtmecgoojoipilaaDoorRows
import GoSem.ClaimSeven
namespace Go.Proofs.YtmecgoojoipilaaDoor
namespace Rows

/-- THE TIED CARD OF 'corollarylaw04.InternPlays'. -/
def internPlaysCard : Claim7 := { stood := { row := internPlaysRow, standIns := [], harness := (true, "933273b231048f07f68bd554b54199e3440ba359fd6f0de1e6bc721c057a8a51"), looks := false }, kinds := [], alts := [], laidByText := true, laidKinds := [.data, .data, .data, .data, .pinned], laidTests := true, laidLooks := .later }
def InternPlaysCardSaid : Prop := Claim7.holds Tryd.pinned (.plain (OpenSpec.ofChange internPlaysSpec)) internPlaysCard

/-- THE TIED CARD OF 'corollarylaw04.InternOne'. -/
def internOneCard : Claim7 := { stood := { row := internOneRow, standIns := [], harness := (true, "933273b231048f07f68bd554b54199e3440ba359fd6f0de1e6bc721c057a8a51"), looks := false }, kinds := [], alts := [], laidByText := true, laidKinds := [.data, .data, .data, .data, .pinned], laidTests := true, laidLooks := .later }
def InternOneCardSaid : Prop := Claim7.holds Tryd.pinned (.plain (OpenSpec.ofChange internOneSpec)) internOneCard

/-- THE SECOND FORM's CARD OF 'corollarylaw04.InternPlays'. -/
def internPlaysUptoCard : Claim7 := { stood := { row := internPlaysUptoRow, standIns := [], harness := (true, "933273b231048f07f68bd554b54199e3440ba359fd6f0de1e6bc721c057a8a51"), looks := false }, kinds := [], alts := [], laidByText := true, laidKinds := [.data, .data, .data, .data, .pinned], laidTests := true, laidLooks := .later }
def InternPlaysUptoCardSaid : Prop := Claim7.holds Tryd.pinned (.plain (OpenSpec.upto internPlaysSpec)) internPlaysUptoCard

/-- THE SECOND FORM's CARD OF 'corollarylaw04.InternOne'. -/
def internOneUptoCard : Claim7 := { stood := { row := internOneUptoRow, standIns := [], harness := (true, "933273b231048f07f68bd554b54199e3440ba359fd6f0de1e6bc721c057a8a51"), looks := false }, kinds := [], alts := [], laidByText := true, laidKinds := [.data, .data, .data, .data, .pinned], laidTests := true, laidLooks := .later }
def InternOneUptoCardSaid : Prop := Claim7.holds Tryd.pinned (.plain (OpenSpec.upto internOneSpec)) internOneUptoCard
end Rows
end Go.Proofs.YtmecgoojoipilaaDoor
