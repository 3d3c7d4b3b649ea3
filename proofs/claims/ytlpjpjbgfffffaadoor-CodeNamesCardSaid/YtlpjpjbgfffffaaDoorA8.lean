/-
  Texts of this family, one behind the other: CodeNm6.
-/
import Derived.Test.YtlpjpjbgfffffaaDoorA7
noncomputable section
namespace Sx
open Go Go.Proofs
theorem mLaw : evTop Tryd.prog mIds (memosA mTab5) 100000 7 = true := by kernel_rfl
theorem mNo : (Tryd.prog.funcs.toList.all fun fn => !(fn.name == "runtime.NumGoroutine")) = true := by kernel_rfl
theorem mFol : Tryd.prog.follows .mixedOrders = true := by kernel_rfl
end Sx
end

