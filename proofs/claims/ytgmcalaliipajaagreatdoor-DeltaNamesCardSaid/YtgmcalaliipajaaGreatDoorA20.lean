/-
  Texts of this family, one behind the other: M17.
-/
import Derived.Test.YtgmcalaliipajaaGreatDoorA19
noncomputable section
namespace Sx
open Go Go.Proofs
theorem xDeltaNamesTrue : evTop Tryz.prog xDeltaNamesIds (orPrim (bldPrim xB) (memosA xDeltaNamesTab16)) 100000 4 = true := by kernel_rfl
theorem xDeltaNamesNo : (Tryz.prog.funcs.toList.all fun fn => !(fn.name == "runtime.NumGoroutine")) = true := by kernel_rfl
theorem xDeltaNamesFol : Tryz.prog.follows .mixedOrders = true := by kernel_rfl
end Sx
end

