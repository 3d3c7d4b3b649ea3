/-
  Texts of this family, one behind the other: M7.
-/
import Derived.Test.YtgmcalaliipajaaGreatDoorA9
noncomputable section
namespace Sx
open Go Go.Proofs
def xDeltaNamesRow7 : Memo := ⟨35, [.sl (some (2391, 0)) 2 (.s 2391 0), .sl (some (2128, 0)) 1 (.s 2128 0)], [(2126, .opn 4 3 [.int Go.IntKind.u8 2, .int Go.IntKind.i64 1, .str [], .sl none 0 (.n 0), .int Go.IntKind.u8 4, .int Go.IntKind.i64 0, .str [120], .sl none 0 (.n 0), .int Go.IntKind.u8 2, .int Go.IntKind.i64 1, .str [], .sl none 0 (.n 0)]), (2128, .opn 2 1 [.sl (some (2126, 0)) 3 (.s 2126 0), .int Go.IntKind.i64 6]), (2341, .opn 4 3 [.int Go.IntKind.u8 2, .int Go.IntKind.i64 1, .str [], .sl none 0 (.n 0), .int Go.IntKind.u8 4, .int Go.IntKind.i64 0, .str [120], .sl none 0 (.n 0), .int Go.IntKind.u8 2, .int Go.IntKind.i64 1, .str [], .sl none 0 (.n 0)]), (2389, .opn 4 3 [.int Go.IntKind.u8 2, .int Go.IntKind.i64 2, .str [], .sl none 0 (.n 0), .int Go.IntKind.u8 4, .int Go.IntKind.i64 0, .str [121], .sl none 0 (.n 0), .int Go.IntKind.u8 2, .int Go.IntKind.i64 2, .str [], .sl none 0 (.n 0)]), (2391, .opn 2 2 [.sl (some (2341, 0)) 3 (.s 2341 0), .int Go.IntKind.i64 6, .sl (some (2389, 0)) 3 (.s 2389 0), .int Go.IntKind.i64 1])], 2392, .tup [.sl (some (2727, 0)) 1 (.s 2727 0), .int Go.IntKind.i64 0], [(2725, .opn 4 3 [.int Go.IntKind.u8 2, .int Go.IntKind.i64 2, .str [], .sl none 0 (.n 0), .int Go.IntKind.u8 4, .int Go.IntKind.i64 0, .str [121], .sl none 0 (.n 0), .int Go.IntKind.u8 2, .int Go.IntKind.i64 2, .str [], .sl none 0 (.n 0)]), (2727, .opn 2 1 [.sl (some (2725, 0)) 3 (.s 2725 0), .int Go.IntKind.i64 1])], 2728, 2392⟩
theorem xDeltaNamesOk7 : memoT Tryz.prog xDeltaNamesIds (orPrim (bldPrim xB) (memosA xDeltaNamesTab6)) 100000 xDeltaNamesRow7 = true := by kernel_rfl
def xDeltaNamesTab7 : List Memo := xDeltaNamesRow7 :: xDeltaNamesTab6
end Sx
end

