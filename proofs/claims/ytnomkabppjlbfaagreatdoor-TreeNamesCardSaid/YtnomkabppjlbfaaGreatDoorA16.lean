/-
  Texts of this family, one behind the other: M13.
-/
import Derived.Test.YtnomkabppjlbfaaGreatDoorA15
noncomputable section
namespace Sx
open Go Go.Proofs
theorem xTreeNamesTrue : evTop Tryz.prog xTreeNamesIds (orPrim (bldPrim xB) (orPrim (bldPrim xBW) (orPrim (cntPrim) (memosA [xTreeNamesRow1, xTreeNamesRow2, xTreeNamesRow3, xTreeNamesRow4, xTreeNamesRow5, xTreeNamesRow6, xTreeNamesRow7, xTreeNamesRow8, xTreeNamesRow9, xTreeNamesRow10, xTreeNamesRow11, xTreeNamesRow12, xTreeNamesRow13, xTreeNamesRow14, xTreeNamesRow15, xTreeNamesRow16, xTreeNamesRow17, xTreeNamesRow18, xTreeNamesRow19, xTreeNamesRow20, xTreeNamesRow21, xTreeNamesRow24, xTreeNamesRow25, xTreeNamesRow252, xTreeNamesRow479, xTreeNamesRow480, xTreeNamesRow481, xTreeNamesRow482, xTreeNamesRow483, xTreeNamesRow484, xTreeNamesRow485])))) 100000 6 = true := by kernel_rfl
theorem xTreeNamesNo : (Tryz.prog.funcs.toList.all fun fn => !(fn.name == "runtime.NumGoroutine")) = true := by kernel_rfl
theorem xTreeNamesFol : Tryz.prog.follows .mixedOrders = true := by kernel_rfl
end Sx
end

