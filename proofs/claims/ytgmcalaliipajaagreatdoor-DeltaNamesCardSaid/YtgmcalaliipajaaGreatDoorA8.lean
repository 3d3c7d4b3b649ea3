/-
  Texts of this family, one behind the other: M5.
-/
import Derived.Test.YtgmcalaliipajaaGreatDoorA7
noncomputable section
namespace Sx
open Go Go.Proofs
def xDeltaNamesRow5 : Memo := ⟨47, [.sl (some (947, 0)) 2 (.n 2), .sl none 0 (.n 0)], [(943, .row [.int Go.IntKind.u8 2, .int Go.IntKind.i64 1, .str [], .sl none 0 (.n 0), .int Go.IntKind.u8 4, .int Go.IntKind.i64 0, .str [120], .sl none 0 (.n 0)]), (946, .row [.int Go.IntKind.u8 2, .int Go.IntKind.i64 2, .str [], .sl none 0 (.n 0), .int Go.IntKind.u8 4, .int Go.IntKind.i64 0, .str [121], .sl none 0 (.n 0)]), (947, .row [.sl (some (943, 0)) 2 (.n 2), .int Go.IntKind.i64 2, .sl (some (946, 0)) 2 (.n 2), .int Go.IntKind.i64 1])], 1766, .tup [.sl (some (1912, 0)) 2 (.s 1912 0), .int Go.IntKind.i64 0], [(1877, .opn 4 2 [.int Go.IntKind.u8 2, .int Go.IntKind.i64 1, .str [], .sl none 0 (.n 0), .int Go.IntKind.u8 4, .int Go.IntKind.i64 0, .str [120], .sl none 0 (.n 0)]), (1910, .opn 4 2 [.int Go.IntKind.u8 2, .int Go.IntKind.i64 2, .str [], .sl none 0 (.n 0), .int Go.IntKind.u8 4, .int Go.IntKind.i64 0, .str [121], .sl none 0 (.n 0)]), (1912, .opn 2 2 [.sl (some (1877, 0)) 2 (.s 1877 0), .int Go.IntKind.i64 2, .sl (some (1910, 0)) 2 (.s 1910 0), .int Go.IntKind.i64 1])], 1913, 1766⟩
theorem xDeltaNamesOk5 : memoT Tryz.prog xDeltaNamesIds (orPrim (bldPrim xB) (memosA xDeltaNamesTab4)) 100000 xDeltaNamesRow5 = true := by kernel_rfl
def xDeltaNamesTab5 : List Memo := xDeltaNamesRow5 :: xDeltaNamesTab4
end Sx
end

