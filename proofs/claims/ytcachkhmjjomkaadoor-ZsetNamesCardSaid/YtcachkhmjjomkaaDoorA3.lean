/-
  Texts of this family, one behind the other: CZsetNames.
-/
import Derived.Test.YtcachkhmjjomkaaDoorA2
import Derived.Test.YtcachkhmjjomkaaDoorProg
noncomputable section
set_option linter.unusedVariables false
namespace Sx
open Go Go.Proofs
def xZsetNamesIds : Ids := ⟨99999, 99999, (some 90), none⟩
theorem xZsetNamesTrue : evTop Tryd.prog xZsetNamesIds (fun _ _ _ => none) 100000 3 = true := by kernel_rfl
theorem xZsetNamesNo : (Tryd.prog.funcs.toList.all fun fn => !(fn.name == "runtime.NumGoroutine")) = true := by kernel_rfl
theorem xZsetNamesFol : Tryd.prog.follows .mixedOrders = true := by kernel_rfl
theorem xZsetNamesIdx : ∀ f, xZsetNamesIds.idx = some f → ExtOk Tryd.prog f Extern.BytealgIndexByte.indexByte := fun f h => by
  cases h; exact ⟨⟨_, Tryd.func90, by kernel_rfl, by kernel_rfl, by kernel_rfl, by kernel_rfl⟩⟩
theorem xZsetNamesCnt : ∀ f, xZsetNamesIds.cnt = some f → ExtOk Tryd.prog f Extern.BytealgCount.count := fun f h => by
  cases h
theorem xZsetNamesNoR : ∀ (f : FuncId) (fn : Func), Tryd.prog.funcs[f]? = some fn → (fn.name == "runtime.NumGoroutine") = false := fun f fn h => by
  have h1 := List.all_eq_true.1 xZsetNamesNo fn (by
    rw [← Array.getElem?_toList] at h
    exact List.mem_of_getElem? h)
  simpa using h1
def c_law16_ZsetNames (C : Ctx) (K : Bool → Heap → Prop) (H : Heap) : Prop := Spec Tryd.prog C 3 [] H (fun v H2 => ∃ r, v = .bool r ∧ K r H2)
theorem xZsetNamesPrim {C : Ctx} : PrimOk Tryd.prog C (fun _ _ _ => none) := ⟨fun _ _ _ _ _ h => by cases h⟩
theorem ZsetNames_ok {C : Ctx} {K : Bool → Heap → Prop} {H : Heap} (k : ∀ H2, H.le H2 → K true H2) : c_law16_ZsetNames C K H :=
  (ev_closed xZsetNamesIdx xZsetNamesCnt xZsetNamesPrim xZsetNamesNoR xZsetNamesFol xZsetNamesTrue H).mono fun u H2 ⟨hu, hle⟩ => ⟨true, hu, k H2 hle⟩
end Sx
end

