/-
  Texts of this family, one behind the other: CNames.
-/
import Derived.Test.YthfggbmlmpegaaaDoorA6
import Derived.Test.YthfggbmlmpegaaaDoorProg
noncomputable section
set_option linter.unusedVariables false
namespace Sx
open Go Go.Proofs
def xB : BIds := ⟨tyB, tyE, 25, 26, 31⟩
theorem xBld {C : Ctx} : BldOk Tryd.prog C xB where
  wb := fun b bs c H Φ h hl k => Spec.mono (WriteByte_ok (K := fun r H' => Φ r H') h hl k) fun v H2 ⟨r, hv, hk⟩ => by rw [hv]; exact hk
  ws := fun b bs s H Φ h hl k => Spec.mono (WriteString_ok (K := fun r r2 H' => Φ (.tuple #[.int .i64 r, r2]) H') h hl k) fun v H2 ⟨r, r2, hv, hk⟩ => by rw [hv]; exact hk
  st := fun b bs H Φ h hl k => Spec.mono (String_ok (K := fun r H' => Φ (sv r) H') h (by omega) k) fun v H2 ⟨r, hv, hk⟩ => by rw [hv]; exact hk
  okb := ok_strings_Builder_WriteByte
  oks := ok_strings_Builder_WriteString
  okt := ok_strings_Builder_String
def xV : VIds := ⟨(some 13), (some 12), (some 17), (some 14), (some 29), none, (some 20), (some 19)⟩
theorem xVal {C : Ctx} (hF : FmtC C) : ValOk Tryd.prog C xV where
  chk := fun f h => by
    cases h
    exact ⟨ok_value_Check, fun v x H Φ hv hB hΦ => Spec.mono (value_Check_ok (K := fun r H2 => Φ (.int .i64 r) H2) hv hB hΦ) fun u H2 ⟨r, e, hk⟩ => by rw [e]; exact hk⟩
  cmp := fun f h => by
    cases h
    exact ⟨ok_value_Cmp, fun v w x y H Φ hv hw hB hB2 hΦ => Spec.mono (pCmp_ok (K := fun r H2 => Φ (.int .i64 r) H2) hv hw hB hB2 hΦ) fun u H2 ⟨r, e, hk⟩ => by rw [e]; exact hk⟩
  rows := fun f h => by
    cases h
    exact ⟨ok_value_CmpRows, fun l m s t H Φ hs ht h1 h2 hB hB2 hΦ => Spec.mono (pCmpRows_ok (K := fun r H2 => Φ (.int .i64 r) H2) hs ht (by omega) (by omega) hB hB2 hΦ) fun u H2 ⟨r, e, hk⟩ => by rw [e]; exact hk⟩
  show_ := fun f h => by
    cases h
    exact ⟨ok_value_Show, fun v x H Φ hv hB hl hΦ => Spec.mono (Show_ok hF (K := fun r H2 => Φ (sv r) H2) hv hB (fun h => by have := hl h; omega) hΦ) fun u H2 ⟨r, e, hk⟩ => by rw [e]; exact hk⟩
  fmt := fun f h => by
    cases h
    exact ⟨ok_strconv_FormatInt, fun n H Φ h0 h1 hΦ => Spec.mono (hF.ok (K := fun r H2 => Φ (sv r) H2) h0 h1 hΦ) fun u H2 ⟨r, e, hk⟩ => by rw [e]; exact hk⟩
  rchk := fun f h => by cases h
  same := fun f h => by
    cases h
    exact ⟨ok_ref02_Same, fun v w x y H Φ hv hw hB hB2 hΦ => Spec.mono (Same_ok (K := fun r H2 => Φ (.bool r) H2) hv hw hB hΦ) fun u H2 ⟨r, e, hk⟩ => by rw [e]; exact hk⟩
  srow := fun f h => by
    cases h
    exact ⟨ok_ref02_SameRow, fun l m s t H Φ hs ht h1 h2 hB hB2 hΦ => Spec.mono (SameRow_ok (K := fun r H2 => Φ (.bool r) H2) hs ht (by omega) hB hΦ) fun u H2 ⟨r, e, hk⟩ => by rw [e]; exact hk⟩
def yValueNamesIds : Ids := ⟨tyB, tyE, (some 105), none⟩
set_option maxRecDepth 1000000 in
theorem yValueNamesTrue : evTop Tryd.prog yValueNamesIds (valPrim xV (bldPrim xB)) 100000 3 = true := by kernel_rfl
theorem yValueNamesNo : (Tryd.prog.funcs.toList.all fun fn => !(fn.name == "runtime.NumGoroutine")) = true := by kernel_rfl
theorem yValueNamesFol : Tryd.prog.follows .mixedOrders = true := by kernel_rfl
theorem yValueNamesIdx : ∀ f, yValueNamesIds.idx = some f → ExtOk Tryd.prog f Extern.BytealgIndexByte.indexByte := fun f h => by
  cases h; exact ⟨⟨_, Tryd.func105, by kernel_rfl, by kernel_rfl, by kernel_rfl, by kernel_rfl⟩⟩
theorem yValueNamesCnt : ∀ f, yValueNamesIds.cnt = some f → ExtOk Tryd.prog f Extern.BytealgCount.count := fun f h => by
  cases h
theorem yValueNamesNoR : ∀ (f : FuncId) (fn : Func), Tryd.prog.funcs[f]? = some fn → (fn.name == "runtime.NumGoroutine") = false := fun f fn h => by
  have h1 := List.all_eq_true.1 yValueNamesNo fn (by
    rw [← Array.getElem?_toList] at h
    exact List.mem_of_getElem? h)
  simpa using h1
theorem ValueNames_ok {C : Ctx} (hF : FmtC C) {K : Bool → Heap → Prop} {H : Heap} (k : ∀ H2, H.le H2 → K true H2) : c_law02_ValueNames C K H :=
  (ev_closed yValueNamesIdx yValueNamesCnt (val_ok (xVal hF) (bld_ok xBld)) yValueNamesNoR yValueNamesFol yValueNamesTrue H).mono fun u H2 ⟨hu, hle⟩ => ⟨true, hu, k H2 hle⟩
end Sx
end

