/-
  Texts of this family, one behind the other: M1.
-/
import Derived.Test.YtnomkabppjlbfaaGreatDoorA3
import Derived.Test.YtnomkabppjlbfaaGreatDoorProg
noncomputable section
namespace Sx
open Go Go.Proofs
def xawakeIds : Ids := ⟨85, 5, (some 253), none, 87⟩
def xawakeTab0 : List Memo := []
theorem xawakeTrue : evTop Tryz.prog xawakeIds (orPrim (bldPrim xB) (orPrim (bldPrim xBW) (orPrim (cntPrim) (memosA xawakeTab0)))) 100000 9 = true := by kernel_rfl
theorem xawakeNo : (Tryz.prog.funcs.toList.all fun fn => !(fn.name == "runtime.NumGoroutine")) = true := by kernel_rfl
theorem xawakeFol : Tryz.prog.follows .mixedOrders = true := by kernel_rfl
end Sx
end

