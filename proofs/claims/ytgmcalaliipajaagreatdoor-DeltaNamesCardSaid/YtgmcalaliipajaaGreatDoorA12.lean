/-
  Texts of this family, one behind the other: M9.
-/
import Derived.Test.YtgmcalaliipajaaGreatDoorA11
noncomputable section
namespace Sx
open Go Go.Proofs
def xDeltaNamesRow9 : Memo := ⟨33, [.sl (some (947, 0)) 2 (.n 2)], [(943, .row [.int Go.IntKind.u8 2, .int Go.IntKind.i64 1, .str [], .sl none 0 (.n 0), .int Go.IntKind.u8 4, .int Go.IntKind.i64 0, .str [120], .sl none 0 (.n 0)]), (946, .row [.int Go.IntKind.u8 2, .int Go.IntKind.i64 2, .str [], .sl none 0 (.n 0), .int Go.IntKind.u8 4, .int Go.IntKind.i64 0, .str [121], .sl none 0 (.n 0)]), (947, .row [.sl (some (943, 0)) 2 (.n 2), .int Go.IntKind.i64 2, .sl (some (946, 0)) 2 (.n 2), .int Go.IntKind.i64 1])], 2732, .tup [.sl (some (2877, 0)) 2 (.s 2877 0), .int Go.IntKind.i64 0], [(2842, .opn 4 2 [.int Go.IntKind.u8 2, .int Go.IntKind.i64 1, .str [], .sl none 0 (.n 0), .int Go.IntKind.u8 4, .int Go.IntKind.i64 0, .str [120], .sl none 0 (.n 0)]), (2875, .opn 4 2 [.int Go.IntKind.u8 2, .int Go.IntKind.i64 2, .str [], .sl none 0 (.n 0), .int Go.IntKind.u8 4, .int Go.IntKind.i64 0, .str [121], .sl none 0 (.n 0)]), (2877, .opn 2 2 [.sl (some (2842, 0)) 2 (.s 2842 0), .int Go.IntKind.i64 2, .sl (some (2875, 0)) 2 (.s 2875 0), .int Go.IntKind.i64 1])], 2878, 2732⟩
theorem xDeltaNamesOk9 : memoT Tryz.prog xDeltaNamesIds (orPrim (bldPrim xB) (memosA xDeltaNamesTab8)) 100000 xDeltaNamesRow9 = true := by kernel_rfl
def xDeltaNamesTab9 : List Memo := xDeltaNamesRow9 :: xDeltaNamesTab8
end Sx
end

