/-
  Texts of this family, one behind the other: CInternNames.
-/
import Derived.Test.YtdflkogjmndmiaaDoorA3
import Derived.Test.YtdflkogjmndmiaaDoorProg
noncomputable section
set_option linter.unusedVariables false
namespace Sx
open Go Go.Proofs
def xInternNamesIds : Ids := ⟨67, 5, (some 90), none⟩
theorem xInternNamesTrue : evTop Tryd.prog xInternNamesIds (bldPrim xB) 100000 4 = true := by kernel_rfl
theorem xInternNamesNo : (Tryd.prog.funcs.toList.all fun fn => !(fn.name == "runtime.NumGoroutine")) = true := by kernel_rfl
theorem xInternNamesFol : Tryd.prog.follows .mixedOrders = true := by kernel_rfl
theorem xInternNamesIdx : ∀ f, xInternNamesIds.idx = some f → ExtOk Tryd.prog f Extern.BytealgIndexByte.indexByte := fun f h => by
  cases h; exact ⟨⟨_, Tryd.func90, by kernel_rfl, by kernel_rfl, by kernel_rfl, by kernel_rfl⟩⟩
theorem xInternNamesCnt : ∀ f, xInternNamesIds.cnt = some f → ExtOk Tryd.prog f Extern.BytealgCount.count := fun f h => by
  cases h
theorem xInternNamesNoR : ∀ (f : FuncId) (fn : Func), Tryd.prog.funcs[f]? = some fn → (fn.name == "runtime.NumGoroutine") = false := fun f fn h => by
  have h1 := List.all_eq_true.1 xInternNamesNo fn (by
    rw [← Array.getElem?_toList] at h
    exact List.mem_of_getElem? h)
  simpa using h1
def c_law04_InternNames (C : Ctx) (K : Bool → Heap → Prop) (H : Heap) : Prop := Spec Tryd.prog C 4 [] H (fun v H2 => ∃ r, v = .bool r ∧ K r H2)
theorem xInternNamesPrim {C : Ctx} : PrimOk Tryd.prog C (bldPrim xB) := bld_ok xBld
theorem InternNames_ok {C : Ctx} {K : Bool → Heap → Prop} {H : Heap} (k : ∀ H2, H.le H2 → K true H2) : c_law04_InternNames C K H :=
  (ev_closed xInternNamesIdx xInternNamesCnt xInternNamesPrim xInternNamesNoR xInternNamesFol xInternNamesTrue H).mono fun u H2 ⟨hu, hle⟩ => ⟨true, hu, k H2 hle⟩
end Sx
end

