/-
  Texts of this family, one behind the other: M14.
-/
import Derived.Test.YtgmcalaliipajaaGreatDoorA16
noncomputable section
namespace Sx
open Go Go.Proofs
def xDeltaNamesRow14 : Memo := ⟨47, [.sl (some (947, 0)) 2 (.n 2), .sl (some (3495, 0)) 2 (.n 2)], [(943, .row [.int Go.IntKind.u8 2, .int Go.IntKind.i64 1, .str [], .sl none 0 (.n 0), .int Go.IntKind.u8 4, .int Go.IntKind.i64 0, .str [120], .sl none 0 (.n 0)]), (946, .row [.int Go.IntKind.u8 2, .int Go.IntKind.i64 2, .str [], .sl none 0 (.n 0), .int Go.IntKind.u8 4, .int Go.IntKind.i64 0, .str [121], .sl none 0 (.n 0)]), (947, .row [.sl (some (943, 0)) 2 (.n 2), .int Go.IntKind.i64 2, .sl (some (946, 0)) 2 (.n 2), .int Go.IntKind.i64 1]), (3494, .row [.int Go.IntKind.u8 2, .int Go.IntKind.i64 3, .str [], .sl none 0 (.n 0), .int Go.IntKind.u8 4, .int Go.IntKind.i64 0, .str [122], .sl none 0 (.n 0)]), (3495, .row [.sl (some (943, 0)) 2 (.n 2), .int Go.IntKind.i64 (-2), .sl (some (3494, 0)) 2 (.n 2), .int Go.IntKind.i64 5])], 3811, .tup [.sl (some (4143, 0)) 2 (.s 4143 0), .int Go.IntKind.i64 0], [(4108, .opn 4 2 [.int Go.IntKind.u8 2, .int Go.IntKind.i64 2, .str [], .sl none 0 (.n 0), .int Go.IntKind.u8 4, .int Go.IntKind.i64 0, .str [121], .sl none 0 (.n 0)]), (4141, .opn 4 2 [.int Go.IntKind.u8 2, .int Go.IntKind.i64 3, .str [], .sl none 0 (.n 0), .int Go.IntKind.u8 4, .int Go.IntKind.i64 0, .str [122], .sl none 0 (.n 0)]), (4143, .opn 2 2 [.sl (some (4108, 0)) 2 (.s 4108 0), .int Go.IntKind.i64 1, .sl (some (4141, 0)) 2 (.s 4141 0), .int Go.IntKind.i64 5])], 4144, 3811⟩
theorem xDeltaNamesOk14 : memoT Tryz.prog xDeltaNamesIds (orPrim (bldPrim xB) (memosA xDeltaNamesTab13)) 100000 xDeltaNamesRow14 = true := by kernel_rfl
def xDeltaNamesTab14 : List Memo := xDeltaNamesRow14 :: xDeltaNamesTab13
end Sx
end

