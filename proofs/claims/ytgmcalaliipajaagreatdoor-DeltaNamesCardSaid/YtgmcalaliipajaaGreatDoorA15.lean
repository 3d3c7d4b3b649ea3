/-
  Texts of this family, one behind the other: M12.
-/
import Derived.Test.YtgmcalaliipajaaGreatDoorA14
noncomputable section
namespace Sx
open Go Go.Proofs
def xDeltaNamesRow12 : Memo := ⟨33, [.sl (some (947, 0)) 2 (.n 2)], [(943, .row [.int Go.IntKind.u8 2, .int Go.IntKind.i64 1, .str [], .sl none 0 (.n 0), .int Go.IntKind.u8 4, .int Go.IntKind.i64 0, .str [120], .sl none 0 (.n 0)]), (946, .row [.int Go.IntKind.u8 2, .int Go.IntKind.i64 2, .str [], .sl none 0 (.n 0), .int Go.IntKind.u8 4, .int Go.IntKind.i64 0, .str [121], .sl none 0 (.n 0)]), (947, .row [.sl (some (943, 0)) 2 (.n 2), .int Go.IntKind.i64 2, .sl (some (946, 0)) 2 (.n 2), .int Go.IntKind.i64 1])], 3500, .tup [.sl (some (3645, 0)) 2 (.s 3645 0), .int Go.IntKind.i64 0], [(3610, .opn 4 2 [.int Go.IntKind.u8 2, .int Go.IntKind.i64 1, .str [], .sl none 0 (.n 0), .int Go.IntKind.u8 4, .int Go.IntKind.i64 0, .str [120], .sl none 0 (.n 0)]), (3643, .opn 4 2 [.int Go.IntKind.u8 2, .int Go.IntKind.i64 2, .str [], .sl none 0 (.n 0), .int Go.IntKind.u8 4, .int Go.IntKind.i64 0, .str [121], .sl none 0 (.n 0)]), (3645, .opn 2 2 [.sl (some (3610, 0)) 2 (.s 3610 0), .int Go.IntKind.i64 2, .sl (some (3643, 0)) 2 (.s 3643 0), .int Go.IntKind.i64 1])], 3646, 3500⟩
theorem xDeltaNamesOk12 : memoT Tryz.prog xDeltaNamesIds (orPrim (bldPrim xB) (memosA xDeltaNamesTab11)) 100000 xDeltaNamesRow12 = true := by kernel_rfl
def xDeltaNamesTab12 : List Memo := xDeltaNamesRow12 :: xDeltaNamesTab11
end Sx
end

