/-
  Texts of this family, one behind the other: M1.
-/
import Derived.Test.YtcachkhmjjomkaaDoorA3
import Derived.Test.YtcachkhmjjomkaaDoorProg
noncomputable section
namespace Sx
open Go Go.Proofs
def xawakeIds : Ids := ⟨99999, 99999, (some 90), none, 99999⟩
theorem xawakeTrue : evTop Tryd.prog xawakeIds (memosA []) 100000 7 = true := by kernel_rfl
theorem xawakeNo : (Tryd.prog.funcs.toList.all fun fn => !(fn.name == "runtime.NumGoroutine")) = true := by kernel_rfl
theorem xawakeFol : Tryd.prog.follows .mixedOrders = true := by kernel_rfl
end Sx
end

