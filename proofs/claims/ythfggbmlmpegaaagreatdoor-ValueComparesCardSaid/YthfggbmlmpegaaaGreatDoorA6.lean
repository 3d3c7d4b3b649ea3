/-
  Texts of this family, one behind the other: CAwake.
-/
import Derived.Test.YthfggbmlmpegaaaGreatDoorA5
import Derived.Test.YthfggbmlmpegaaaGreatDoorProg
noncomputable section
set_option linter.unusedVariables false
namespace Sx
open Go Go.Proofs
def xawakeIds : Ids := ⟨49, 5, (some 119), none⟩
theorem xawakeTrue : evTop Tryz.prog xawakeIds (bldPrim xB) 100000 6 = true := by kernel_rfl
theorem xawakeNo : (Tryz.prog.funcs.toList.all fun fn => !(fn.name == "runtime.NumGoroutine")) = true := by kernel_rfl
theorem xawakeFol : Tryz.prog.follows .mixedOrders = true := by kernel_rfl
theorem xawakeIdx : ∀ f, xawakeIds.idx = some f → ExtOk Tryz.prog f Extern.BytealgIndexByte.indexByte := fun f h => by
  cases h; exact ⟨⟨_, Tryz.func119, by kernel_rfl, by kernel_rfl, by kernel_rfl, by kernel_rfl⟩⟩
theorem xawakeCnt : ∀ f, xawakeIds.cnt = some f → ExtOk Tryz.prog f Extern.BytealgCount.count := fun f h => by
  cases h
theorem xawakeNoR : ∀ (f : FuncId) (fn : Func), Tryz.prog.funcs[f]? = some fn → (fn.name == "runtime.NumGoroutine") = false := fun f fn h => by
  have h1 := List.all_eq_true.1 xawakeNo fn (by
    rw [← Array.getElem?_toList] at h
    exact List.mem_of_getElem? h)
  simpa using h1
theorem xawakePrim {C : Ctx} : PrimOk Tryz.prog C (bldPrim xB) := bld_ok xBld
theorem awake_ok {C : Ctx} {K : Bool → Heap → Prop} {H : Heap} (k : ∀ H2, H.le H2 → K true H2) : c_law02_awake C K H :=
  (ev_closed xawakeIdx xawakeCnt xawakePrim xawakeNoR xawakeFol xawakeTrue H).mono fun u H2 ⟨hu, hle⟩ => ⟨true, hu, k H2 hle⟩
end Sx
end

