/-
  Texts of this family, one behind the other: M16.
-/
import Derived.Test.YtgmcalaliipajaaGreatDoorA18
noncomputable section
namespace Sx
open Go Go.Proofs
def xDeltaNamesRow16 : Memo := ⟨9, [], [], 941, .bool true, [], 4445, 941⟩
theorem xDeltaNamesOk16 : memoT Tryz.prog xDeltaNamesIds (orPrim (bldPrim xB) (memosA xDeltaNamesTab15)) 100000 xDeltaNamesRow16 = true := by kernel_rfl
def xDeltaNamesTab16 : List Memo := xDeltaNamesRow16 :: xDeltaNamesTab15
end Sx
end

