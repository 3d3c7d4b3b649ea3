/-
  Texts of this family, one behind the other: M1.
-/
import Derived.Test.YtgmcalaliipajaaGreatDoorA3
import Derived.Test.YtgmcalaliipajaaGreatDoorProg
noncomputable section
namespace Sx
open Go Go.Proofs
def xDeltaNamesIds : Ids := ⟨128, 5, (some 164), none⟩
def xDeltaNamesTab0 : List Memo := []
def xDeltaNamesRow1 : Memo := ⟨12, [.sl (some (1, 0)) 1 (.n 1), .sl (some (1, 0)) 1 (.n 1), .sl none 0 (.n 0), .sl none 0 (.n 0), .sl none 0 (.n 0)], [(0, .row [.int Go.IntKind.u8 2, .int Go.IntKind.i64 1, .str [], .sl none 0 (.n 0)]), (1, .row [.sl (some (0, 0)) 1 (.n 1), .int Go.IntKind.i64 2147483647])], 126, .tup [.sl none 0 (.n 0), .int Go.IntKind.i64 80], [], 293, 126⟩
theorem xDeltaNamesOk1 : memoT Tryz.prog xDeltaNamesIds (orPrim (bldPrim xB) (memosA xDeltaNamesTab0)) 100000 xDeltaNamesRow1 = true := by kernel_rfl
def xDeltaNamesTab1 : List Memo := xDeltaNamesRow1 :: xDeltaNamesTab0
end Sx
end

