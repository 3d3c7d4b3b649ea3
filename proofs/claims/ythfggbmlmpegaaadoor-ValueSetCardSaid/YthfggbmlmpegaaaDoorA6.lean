/-
  Texts of this family, one behind the other: CAwake.
-/
import Derived.Test.YthfggbmlmpegaaaDoorA5
import Derived.Test.YthfggbmlmpegaaaDoorProg
noncomputable section
set_option linter.unusedVariables false
namespace Sx
open Go Go.Proofs
def xawakeIds : Ids := ⟨49, 5, (some 105), none⟩
theorem xawakeTrue : evTop Tryd.prog xawakeIds (bldPrim xB) 100000 15 = true := by kernel_rfl
theorem xawakeNo : (Tryd.prog.funcs.toList.all fun fn => !(fn.name == "runtime.NumGoroutine")) = true := by kernel_rfl
theorem xawakeFol : Tryd.prog.follows .mixedOrders = true := by kernel_rfl
theorem xawakeIdx : ∀ f, xawakeIds.idx = some f → ExtOk Tryd.prog f Extern.BytealgIndexByte.indexByte := fun f h => by
  cases h; exact ⟨⟨_, Tryd.func105, by kernel_rfl, by kernel_rfl, by kernel_rfl, by kernel_rfl⟩⟩
theorem xawakeCnt : ∀ f, xawakeIds.cnt = some f → ExtOk Tryd.prog f Extern.BytealgCount.count := fun f h => by
  cases h
theorem xawakeNoR : ∀ (f : FuncId) (fn : Func), Tryd.prog.funcs[f]? = some fn → (fn.name == "runtime.NumGoroutine") = false := fun f fn h => by
  have h1 := List.all_eq_true.1 xawakeNo fn (by
    rw [← Array.getElem?_toList] at h
    exact List.mem_of_getElem? h)
  simpa using h1
theorem xawakePrim {C : Ctx} : PrimOk Tryd.prog C (bldPrim xB) := bld_ok xBld
theorem awake_ok {C : Ctx} {K : Bool → Heap → Prop} {H : Heap} (k : ∀ H2, H.le H2 → K true H2) : c_law02_awake C K H :=
  (ev_closed xawakeIdx xawakeCnt xawakePrim xawakeNoR xawakeFol xawakeTrue H).mono fun u H2 ⟨hu, hle⟩ => ⟨true, hu, k H2 hle⟩
end Sx
end

