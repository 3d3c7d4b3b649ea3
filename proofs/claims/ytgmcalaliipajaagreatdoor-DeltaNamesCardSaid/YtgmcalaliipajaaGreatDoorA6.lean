/-
  Texts of this family, one behind the other: M3.
-/
import Derived.Test.YtgmcalaliipajaaGreatDoorA5
noncomputable section
namespace Sx
open Go Go.Proofs
def xDeltaNamesRow3 : Memo := ⟨22, [.sl (some (947, 0)) 2 (.n 2), .sl (some (950, 0)) 1 (.n 1), .sl (some (954, 0)) 1 (.n 1)], [(943, .row [.int Go.IntKind.u8 2, .int Go.IntKind.i64 1, .str [], .sl none 0 (.n 0), .int Go.IntKind.u8 4, .int Go.IntKind.i64 0, .str [120], .sl none 0 (.n 0)]), (946, .row [.int Go.IntKind.u8 2, .int Go.IntKind.i64 2, .str [], .sl none 0 (.n 0), .int Go.IntKind.u8 4, .int Go.IntKind.i64 0, .str [121], .sl none 0 (.n 0)]), (947, .row [.sl (some (943, 0)) 2 (.n 2), .int Go.IntKind.i64 2, .sl (some (946, 0)) 2 (.n 2), .int Go.IntKind.i64 1]), (949, .row [.int Go.IntKind.u8 2, .int Go.IntKind.i64 1, .str [], .sl none 0 (.n 0)]), (950, .row [.sl (some (949, 0)) 1 (.n 1), .int Go.IntKind.i64 3]), (954, .row [.int Go.IntKind.i64 0, .int Go.IntKind.i64 0])], 955, .tup [.sl (some (1254, 0)) 1 (.s 1254 0), .int Go.IntKind.i64 0], [(1252, .opn 4 3 [.int Go.IntKind.u8 2, .int Go.IntKind.i64 1, .str [], .sl none 0 (.n 0), .int Go.IntKind.u8 4, .int Go.IntKind.i64 0, .str [120], .sl none 0 (.n 0), .int Go.IntKind.u8 2, .int Go.IntKind.i64 1, .str [], .sl none 0 (.n 0)]), (1254, .opn 2 1 [.sl (some (1252, 0)) 3 (.s 1252 0), .int Go.IntKind.i64 6])], 1255, 955⟩
theorem xDeltaNamesOk3 : memoT Tryz.prog xDeltaNamesIds (orPrim (bldPrim xB) (memosA xDeltaNamesTab2)) 100000 xDeltaNamesRow3 = true := by kernel_rfl
def xDeltaNamesTab3 : List Memo := xDeltaNamesRow3 :: xDeltaNamesTab2
end Sx
end

