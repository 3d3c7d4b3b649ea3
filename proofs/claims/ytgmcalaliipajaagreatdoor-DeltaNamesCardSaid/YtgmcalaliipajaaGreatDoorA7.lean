/-
  Texts of this family, one behind the other: M4.
-/
import Derived.Test.YtgmcalaliipajaaGreatDoorA6
noncomputable section
namespace Sx
open Go Go.Proofs
def xDeltaNamesRow4 : Memo := ⟨33, [.sl (some (947, 0)) 2 (.n 2)], [(943, .row [.int Go.IntKind.u8 2, .int Go.IntKind.i64 1, .str [], .sl none 0 (.n 0), .int Go.IntKind.u8 4, .int Go.IntKind.i64 0, .str [120], .sl none 0 (.n 0)]), (946, .row [.int Go.IntKind.u8 2, .int Go.IntKind.i64 2, .str [], .sl none 0 (.n 0), .int Go.IntKind.u8 4, .int Go.IntKind.i64 0, .str [121], .sl none 0 (.n 0)]), (947, .row [.sl (some (943, 0)) 2 (.n 2), .int Go.IntKind.i64 2, .sl (some (946, 0)) 2 (.n 2), .int Go.IntKind.i64 1])], 1539, .tup [.sl (some (1684, 0)) 2 (.s 1684 0), .int Go.IntKind.i64 0], [(1649, .opn 4 2 [.int Go.IntKind.u8 2, .int Go.IntKind.i64 1, .str [], .sl none 0 (.n 0), .int Go.IntKind.u8 4, .int Go.IntKind.i64 0, .str [120], .sl none 0 (.n 0)]), (1682, .opn 4 2 [.int Go.IntKind.u8 2, .int Go.IntKind.i64 2, .str [], .sl none 0 (.n 0), .int Go.IntKind.u8 4, .int Go.IntKind.i64 0, .str [121], .sl none 0 (.n 0)]), (1684, .opn 2 2 [.sl (some (1649, 0)) 2 (.s 1649 0), .int Go.IntKind.i64 2, .sl (some (1682, 0)) 2 (.s 1682 0), .int Go.IntKind.i64 1])], 1685, 1539⟩
theorem xDeltaNamesOk4 : memoT Tryz.prog xDeltaNamesIds (orPrim (bldPrim xB) (memosA xDeltaNamesTab3)) 100000 xDeltaNamesRow4 = true := by kernel_rfl
def xDeltaNamesTab4 : List Memo := xDeltaNamesRow4 :: xDeltaNamesTab3
end Sx
end

