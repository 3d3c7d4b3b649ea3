/-
  Texts of this family, one behind the other: M10.
-/
import Derived.Test.YtgmcalaliipajaaGreatDoorA12
noncomputable section
namespace Sx
open Go Go.Proofs
def xDeltaNamesRow10 : Memo := ⟨47, [.sl (some (947, 0)) 2 (.n 2), .sl none 0 (.n 0)], [(943, .row [.int Go.IntKind.u8 2, .int Go.IntKind.i64 1, .str [], .sl none 0 (.n 0), .int Go.IntKind.u8 4, .int Go.IntKind.i64 0, .str [120], .sl none 0 (.n 0)]), (946, .row [.int Go.IntKind.u8 2, .int Go.IntKind.i64 2, .str [], .sl none 0 (.n 0), .int Go.IntKind.u8 4, .int Go.IntKind.i64 0, .str [121], .sl none 0 (.n 0)]), (947, .row [.sl (some (943, 0)) 2 (.n 2), .int Go.IntKind.i64 2, .sl (some (946, 0)) 2 (.n 2), .int Go.IntKind.i64 1])], 2959, .tup [.sl (some (3105, 0)) 2 (.s 3105 0), .int Go.IntKind.i64 0], [(3070, .opn 4 2 [.int Go.IntKind.u8 2, .int Go.IntKind.i64 1, .str [], .sl none 0 (.n 0), .int Go.IntKind.u8 4, .int Go.IntKind.i64 0, .str [120], .sl none 0 (.n 0)]), (3103, .opn 4 2 [.int Go.IntKind.u8 2, .int Go.IntKind.i64 2, .str [], .sl none 0 (.n 0), .int Go.IntKind.u8 4, .int Go.IntKind.i64 0, .str [121], .sl none 0 (.n 0)]), (3105, .opn 2 2 [.sl (some (3070, 0)) 2 (.s 3070 0), .int Go.IntKind.i64 2, .sl (some (3103, 0)) 2 (.s 3103 0), .int Go.IntKind.i64 1])], 3106, 2959⟩
theorem xDeltaNamesOk10 : memoT Tryz.prog xDeltaNamesIds (orPrim (bldPrim xB) (memosA xDeltaNamesTab9)) 100000 xDeltaNamesRow10 = true := by kernel_rfl
def xDeltaNamesTab10 : List Memo := xDeltaNamesRow10 :: xDeltaNamesTab9
end Sx
end

