/-
  Texts of this family, one behind the other: M13.
-/
import Derived.Test.YtgmcalaliipajaaGreatDoorA15
noncomputable section
namespace Sx
open Go Go.Proofs
def xDeltaNamesRow13 : Memo := ⟨33, [.sl (some (3495, 0)) 2 (.n 2)], [(943, .row [.int Go.IntKind.u8 2, .int Go.IntKind.i64 1, .str [], .sl none 0 (.n 0), .int Go.IntKind.u8 4, .int Go.IntKind.i64 0, .str [120], .sl none 0 (.n 0)]), (3494, .row [.int Go.IntKind.u8 2, .int Go.IntKind.i64 3, .str [], .sl none 0 (.n 0), .int Go.IntKind.u8 4, .int Go.IntKind.i64 0, .str [122], .sl none 0 (.n 0)]), (3495, .row [.sl (some (943, 0)) 2 (.n 2), .int Go.IntKind.i64 (-2), .sl (some (3494, 0)) 2 (.n 2), .int Go.IntKind.i64 5])], 3647, .tup [.sl (some (3792, 0)) 2 (.s 3792 0), .int Go.IntKind.i64 0], [(3757, .opn 4 2 [.int Go.IntKind.u8 2, .int Go.IntKind.i64 1, .str [], .sl none 0 (.n 0), .int Go.IntKind.u8 4, .int Go.IntKind.i64 0, .str [120], .sl none 0 (.n 0)]), (3790, .opn 4 2 [.int Go.IntKind.u8 2, .int Go.IntKind.i64 3, .str [], .sl none 0 (.n 0), .int Go.IntKind.u8 4, .int Go.IntKind.i64 0, .str [122], .sl none 0 (.n 0)]), (3792, .opn 2 2 [.sl (some (3757, 0)) 2 (.s 3757 0), .int Go.IntKind.i64 (-2), .sl (some (3790, 0)) 2 (.s 3790 0), .int Go.IntKind.i64 5])], 3793, 3647⟩
theorem xDeltaNamesOk13 : memoT Tryz.prog xDeltaNamesIds (orPrim (bldPrim xB) (memosA xDeltaNamesTab12)) 100000 xDeltaNamesRow13 = true := by kernel_rfl
def xDeltaNamesTab13 : List Memo := xDeltaNamesRow13 :: xDeltaNamesTab12
end Sx
end

