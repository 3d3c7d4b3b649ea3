/-
  Texts of this family, one behind the other: M8.
-/
import Derived.Test.YtgmcalaliipajaaGreatDoorA10
noncomputable section
namespace Sx
open Go Go.Proofs
def xDeltaNamesRow8 : Memo := ⟨12, [.sl (some (947, 0)) 2 (.n 2), .sl none 0 (.n 0), .sl (some (950, 0)) 1 (.n 1), .sl (some (953, 0)) 1 (.n 1), .sl (some (954, 0)) 1 (.n 1)], [(943, .row [.int Go.IntKind.u8 2, .int Go.IntKind.i64 1, .str [], .sl none 0 (.n 0), .int Go.IntKind.u8 4, .int Go.IntKind.i64 0, .str [120], .sl none 0 (.n 0)]), (946, .row [.int Go.IntKind.u8 2, .int Go.IntKind.i64 2, .str [], .sl none 0 (.n 0), .int Go.IntKind.u8 4, .int Go.IntKind.i64 0, .str [121], .sl none 0 (.n 0)]), (947, .row [.sl (some (943, 0)) 2 (.n 2), .int Go.IntKind.i64 2, .sl (some (946, 0)) 2 (.n 2), .int Go.IntKind.i64 1]), (949, .row [.int Go.IntKind.u8 2, .int Go.IntKind.i64 1, .str [], .sl none 0 (.n 0)]), (950, .row [.sl (some (949, 0)) 1 (.n 1), .int Go.IntKind.i64 3]), (952, .row [.int Go.IntKind.u8 2, .int Go.IntKind.i64 2, .str [], .sl none 0 (.n 0)]), (953, .row [.sl (some (952, 0)) 1 (.n 1), .int Go.IntKind.i64 1]), (954, .row [.int Go.IntKind.i64 0, .int Go.IntKind.i64 0])], 1535, .tup [.sl (some (2727, 0)) 1 (.s 2727 0), .int Go.IntKind.i64 0], [(2725, .opn 4 3 [.int Go.IntKind.u8 2, .int Go.IntKind.i64 2, .str [], .sl none 0 (.n 0), .int Go.IntKind.u8 4, .int Go.IntKind.i64 0, .str [121], .sl none 0 (.n 0), .int Go.IntKind.u8 2, .int Go.IntKind.i64 2, .str [], .sl none 0 (.n 0)]), (2727, .opn 2 1 [.sl (some (2725, 0)) 3 (.s 2725 0), .int Go.IntKind.i64 1])], 2728, 1535⟩
theorem xDeltaNamesOk8 : memoT Tryz.prog xDeltaNamesIds (orPrim (bldPrim xB) (memosA xDeltaNamesTab7)) 100000 xDeltaNamesRow8 = true := by kernel_rfl
def xDeltaNamesTab8 : List Memo := xDeltaNamesRow8 :: xDeltaNamesTab7
end Sx
end

