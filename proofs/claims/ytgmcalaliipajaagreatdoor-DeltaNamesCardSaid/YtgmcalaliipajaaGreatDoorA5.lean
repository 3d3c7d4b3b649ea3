/-
  Texts of this family, one behind the other: M2.
-/
import Derived.Test.YtgmcalaliipajaaGreatDoorA4
noncomputable section
namespace Sx
open Go Go.Proofs
def xDeltaNamesRow2 : Memo := ⟨17, [.sl (some (1, 0)) 1 (.n 1), .sl (some (1, 0)) 1 (.n 1)], [(0, .row [.int Go.IntKind.u8 2, .int Go.IntKind.i64 1, .str [], .sl none 0 (.n 0)]), (1, .row [.sl (some (0, 0)) 1 (.n 1), .int Go.IntKind.i64 2147483647])], 671, .tup [.sl none 0 (.n 0), .int Go.IntKind.i64 80], [], 838, 671⟩
theorem xDeltaNamesOk2 : memoT Tryz.prog xDeltaNamesIds (orPrim (bldPrim xB) (memosA xDeltaNamesTab1)) 100000 xDeltaNamesRow2 = true := by kernel_rfl
def xDeltaNamesTab2 : List Memo := xDeltaNamesRow2 :: xDeltaNamesTab1
end Sx
end

