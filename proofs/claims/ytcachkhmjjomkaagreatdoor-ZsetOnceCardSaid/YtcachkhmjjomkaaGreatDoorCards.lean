/-
  DERIVED. GIVEN WITH THE SEED: THE CARDS: each row of YtcachkhmjjomkaaGreatDoorRows.lean that lists a variable, with what it lists TIED to the program's text (the seventh form; the later family's looks); each row that meets fmt, with fmt's text TOLD by the authors' own Lean function (tested against real Go, not proved from fmt's source: count such statements apart). THE CARD IS WHAT COUNTS. Prove the row's statement (the work); the ties are given (YtcachkhmjjomkaaGreatDoorTie.lean); close each card by the builder's one call (the guide's Derived/Test/ToyasCard.lean, 'card_holds'). Laid BY PROGRAM, IN A SANDBOX (cutbox-door.mjs). By AI agents, Wed Nov 11 2026. No macro, syntax, notation, axiom, sorry.
-/
import Derived.Test.YtcachkhmjjomkaaGreatDoorRows
import GoSem.ClaimSeven
namespace Go.Proofs.YtcachkhmjjomkaaGreatDoor
namespace Rows

/-- THE TIED CARD OF 'corollarylaw16.ZsetAdds'. -/
def zsetAddsCard : Claim7 := { stood := { row := zsetAddsRow, standIns := [], harness := (true, "8a00f9866c6a0946bd548b3e7c32ffeba044c0242eebae9729a0bcca19d4c234"), looks := false }, kinds := [], alts := [], laidByText := true, laidKinds := [.data, .pinned], laidTests := true, laidLooks := .later }
def ZsetAddsCardSaid : Prop := Claim7.holds Tryz.pinned (.plain (OpenSpec.ofChange zsetAddsSpec)) zsetAddsCard

/-- THE TIED CARD OF 'corollarylaw16.ZsetOnce'. -/
def zsetOnceCard : Claim7 := { stood := { row := zsetOnceRow, standIns := [], harness := (true, "8a00f9866c6a0946bd548b3e7c32ffeba044c0242eebae9729a0bcca19d4c234"), looks := false }, kinds := [], alts := [], laidByText := true, laidKinds := [.data, .pinned], laidTests := true, laidLooks := .later }
def ZsetOnceCardSaid : Prop := Claim7.holds Tryz.pinned (.plain (OpenSpec.ofChange zsetOnceSpec)) zsetOnceCard

/-- THE SECOND FORM's CARD OF 'corollarylaw16.ZsetAdds'. -/
def zsetAddsUptoCard : Claim7 := { stood := { row := zsetAddsUptoRow, standIns := [], harness := (true, "8a00f9866c6a0946bd548b3e7c32ffeba044c0242eebae9729a0bcca19d4c234"), looks := false }, kinds := [], alts := [], laidByText := true, laidKinds := [.data, .pinned], laidTests := true, laidLooks := .later }
def ZsetAddsUptoCardSaid : Prop := Claim7.holds Tryz.pinned (.plain (OpenSpec.upto zsetAddsSpec)) zsetAddsUptoCard

/-- THE SECOND FORM's CARD OF 'corollarylaw16.ZsetOnce'. -/
def zsetOnceUptoCard : Claim7 := { stood := { row := zsetOnceUptoRow, standIns := [], harness := (true, "8a00f9866c6a0946bd548b3e7c32ffeba044c0242eebae9729a0bcca19d4c234"), looks := false }, kinds := [], alts := [], laidByText := true, laidKinds := [.data, .pinned], laidTests := true, laidLooks := .later }
def ZsetOnceUptoCardSaid : Prop := Claim7.holds Tryz.pinned (.plain (OpenSpec.upto zsetOnceSpec)) zsetOnceUptoCard
end Rows
end Go.Proofs.YtcachkhmjjomkaaGreatDoor
