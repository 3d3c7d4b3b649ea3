/-
  Texts of this family, one behind the other: CodeNm2.
-/
import Derived.Test.YtlpjpjbgfffffaaDoorA3
noncomputable section
namespace Sx
open Go Go.Proofs
def mRow2 : Memo := ⟨38, [.ptr (some (1863, 0))], [(1862, .opn 1 53 [.int Go.IntKind.u8 5, .int Go.IntKind.u8 1, .int Go.IntKind.u8 1, .int Go.IntKind.u8 1, .int Go.IntKind.u8 1, .int Go.IntKind.u8 1, .int Go.IntKind.u8 1, .int Go.IntKind.u8 1, .int Go.IntKind.u8 1, .int Go.IntKind.u8 1, .int Go.IntKind.u8 1, .int Go.IntKind.u8 1, .int Go.IntKind.u8 1, .int Go.IntKind.u8 1, .int Go.IntKind.u8 1, .int Go.IntKind.u8 1, .int Go.IntKind.u8 1, .int Go.IntKind.u8 1, .int Go.IntKind.u8 1, .int Go.IntKind.u8 1, .int Go.IntKind.u8 1, .int Go.IntKind.u8 1, .int Go.IntKind.u8 1, .int Go.IntKind.u8 1, .int Go.IntKind.u8 1, .int Go.IntKind.u8 1, .int Go.IntKind.u8 1, .int Go.IntKind.u8 1, .int Go.IntKind.u8 1, .int Go.IntKind.u8 1, .int Go.IntKind.u8 1, .int Go.IntKind.u8 1, .int Go.IntKind.u8 1, .int Go.IntKind.u8 1, .int Go.IntKind.u8 1, .int Go.IntKind.u8 1, .int Go.IntKind.u8 1, .int Go.IntKind.u8 1, .int Go.IntKind.u8 1, .int Go.IntKind.u8 1, .int Go.IntKind.u8 1, .int Go.IntKind.u8 1, .int Go.IntKind.u8 1, .int Go.IntKind.u8 1, .int Go.IntKind.u8 1, .int Go.IntKind.u8 1, .int Go.IntKind.u8 1, .int Go.IntKind.u8 1, .int Go.IntKind.u8 1, .int Go.IntKind.u8 1, .int Go.IntKind.u8 1, .int Go.IntKind.u8 1, .int Go.IntKind.u8 0]), (1863, .row [.sl (some (1862, 0)) 53 (.s 1862 0), .int Go.IntKind.u8 0, .bool false])], 1864, .agg [.int Go.IntKind.u8 0, .int Go.IntKind.i64 0, .str [], .sl none 0 (.n 0)], [(1863, .row [.sl none 0 (.n 0), .int Go.IntKind.u8 0, .bool true])], 2016, 1863⟩
theorem mOk2 : memoT Tryd.prog mIds (memosA mTab1) 100000 mRow2 = true := by kernel_rfl
def mTab2 : List Memo := mRow2 :: mTab1
end Sx
end

