/-
  Texts of this family, one behind the other: M15.
-/
import Derived.Test.YtgmcalaliipajaaGreatDoorA17
noncomputable section
namespace Sx
open Go Go.Proofs
def xDeltaNamesRow15 : Memo := ⟨17, [.sl (some (947, 0)) 2 (.n 2), .sl (some (3495, 0)) 2 (.n 2)], [(943, .row [.int Go.IntKind.u8 2, .int Go.IntKind.i64 1, .str [], .sl none 0 (.n 0), .int Go.IntKind.u8 4, .int Go.IntKind.i64 0, .str [120], .sl none 0 (.n 0)]), (946, .row [.int Go.IntKind.u8 2, .int Go.IntKind.i64 2, .str [], .sl none 0 (.n 0), .int Go.IntKind.u8 4, .int Go.IntKind.i64 0, .str [121], .sl none 0 (.n 0)]), (947, .row [.sl (some (943, 0)) 2 (.n 2), .int Go.IntKind.i64 2, .sl (some (946, 0)) 2 (.n 2), .int Go.IntKind.i64 1]), (3494, .row [.int Go.IntKind.u8 2, .int Go.IntKind.i64 3, .str [], .sl none 0 (.n 0), .int Go.IntKind.u8 4, .int Go.IntKind.i64 0, .str [122], .sl none 0 (.n 0)]), (3495, .row [.sl (some (943, 0)) 2 (.n 2), .int Go.IntKind.i64 (-2), .sl (some (3494, 0)) 2 (.n 2), .int Go.IntKind.i64 5])], 3496, .tup [.sl (some (4444, 0)) 2 (.s 4444 0), .int Go.IntKind.i64 0], [(4409, .opn 4 2 [.int Go.IntKind.u8 2, .int Go.IntKind.i64 1, .str [], .sl none 0 (.n 0), .int Go.IntKind.u8 4, .int Go.IntKind.i64 0, .str [120], .sl none 0 (.n 0)]), (4442, .opn 4 2 [.int Go.IntKind.u8 2, .int Go.IntKind.i64 3, .str [], .sl none 0 (.n 0), .int Go.IntKind.u8 4, .int Go.IntKind.i64 0, .str [122], .sl none 0 (.n 0)]), (4444, .opn 2 2 [.sl (some (4409, 0)) 2 (.s 4409 0), .int Go.IntKind.i64 (-1), .sl (some (4442, 0)) 2 (.s 4442 0), .int Go.IntKind.i64 1])], 4445, 3496⟩
theorem xDeltaNamesOk15 : memoT Tryz.prog xDeltaNamesIds (orPrim (bldPrim xB) (memosA xDeltaNamesTab14)) 100000 xDeltaNamesRow15 = true := by kernel_rfl
def xDeltaNamesTab15 : List Memo := xDeltaNamesRow15 :: xDeltaNamesTab14
end Sx
end

