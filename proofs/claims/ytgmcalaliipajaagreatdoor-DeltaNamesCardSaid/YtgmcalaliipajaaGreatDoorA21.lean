/-
  Texts of this family, one behind the other: CDeltaNames.
-/
import Derived.Test.YtgmcalaliipajaaGreatDoorA20
noncomputable section
set_option linter.unusedVariables false
set_option linter.unusedSimpArgs false
namespace Sx
open Go Go.Proofs
theorem xDeltaNamesIdx : ∀ f, xDeltaNamesIds.idx = some f → ExtOk Tryz.prog f Extern.BytealgIndexByte.indexByte := fun f h => by
  cases h; exact ⟨⟨_, Tryz.func164, by kernel_rfl, by kernel_rfl, by kernel_rfl, by kernel_rfl⟩⟩
theorem xDeltaNamesCnt : ∀ f, xDeltaNamesIds.cnt = some f → ExtOk Tryz.prog f Extern.BytealgCount.count := fun f h => by
  cases h
theorem xDeltaNamesNoR : ∀ (f : FuncId) (fn : Func), Tryz.prog.funcs[f]? = some fn → (fn.name == "runtime.NumGoroutine") = false := fun f fn h => by
  have h1 := List.all_eq_true.1 xDeltaNamesNo fn (by
    rw [← Array.getElem?_toList] at h
    exact List.mem_of_getElem? h)
  simpa using h1
def c_law24_DeltaNames (C : Ctx) (K : Bool → Heap → Prop) (H : Heap) : Prop := Spec Tryz.prog C 4 [] H (fun v H2 => ∃ r, v = .bool r ∧ K r H2)
section
variable {C : Ctx}
theorem xDeltaNamesCons {l : List Memo} {m : Memo} (h1 : MemoS Tryz.prog C m) (h2 : ∀ m ∈ l, MemoS Tryz.prog C m) : ∀ m' ∈ m :: l, MemoS Tryz.prog C m' := fun m' h => by
  rcases List.mem_cons.1 h with rfl | h
  · exact h1
  · exact h2 m' h
theorem xDeltaNamesH0 : ∀ m ∈ xDeltaNamesTab0, MemoS Tryz.prog C m := fun m h => by cases h
theorem xDeltaNamesH1 : ∀ m ∈ xDeltaNamesTab1, MemoS Tryz.prog C m := xDeltaNamesCons (memoT_ok (ev_ok xDeltaNamesIdx xDeltaNamesCnt (or_ok (bld_ok xBld) (memos_ok xDeltaNamesH0)) xDeltaNamesNoR xDeltaNamesFol 100000) xDeltaNamesOk1) xDeltaNamesH0
theorem xDeltaNamesH2 : ∀ m ∈ xDeltaNamesTab2, MemoS Tryz.prog C m := xDeltaNamesCons (memoT_ok (ev_ok xDeltaNamesIdx xDeltaNamesCnt (or_ok (bld_ok xBld) (memos_ok xDeltaNamesH1)) xDeltaNamesNoR xDeltaNamesFol 100000) xDeltaNamesOk2) xDeltaNamesH1
theorem xDeltaNamesH3 : ∀ m ∈ xDeltaNamesTab3, MemoS Tryz.prog C m := xDeltaNamesCons (memoT_ok (ev_ok xDeltaNamesIdx xDeltaNamesCnt (or_ok (bld_ok xBld) (memos_ok xDeltaNamesH2)) xDeltaNamesNoR xDeltaNamesFol 100000) xDeltaNamesOk3) xDeltaNamesH2
theorem xDeltaNamesH4 : ∀ m ∈ xDeltaNamesTab4, MemoS Tryz.prog C m := xDeltaNamesCons (memoT_ok (ev_ok xDeltaNamesIdx xDeltaNamesCnt (or_ok (bld_ok xBld) (memos_ok xDeltaNamesH3)) xDeltaNamesNoR xDeltaNamesFol 100000) xDeltaNamesOk4) xDeltaNamesH3
theorem xDeltaNamesH5 : ∀ m ∈ xDeltaNamesTab5, MemoS Tryz.prog C m := xDeltaNamesCons (memoT_ok (ev_ok xDeltaNamesIdx xDeltaNamesCnt (or_ok (bld_ok xBld) (memos_ok xDeltaNamesH4)) xDeltaNamesNoR xDeltaNamesFol 100000) xDeltaNamesOk5) xDeltaNamesH4
theorem xDeltaNamesH6 : ∀ m ∈ xDeltaNamesTab6, MemoS Tryz.prog C m := xDeltaNamesCons (memoT_ok (ev_ok xDeltaNamesIdx xDeltaNamesCnt (or_ok (bld_ok xBld) (memos_ok xDeltaNamesH5)) xDeltaNamesNoR xDeltaNamesFol 100000) xDeltaNamesOk6) xDeltaNamesH5
theorem xDeltaNamesH7 : ∀ m ∈ xDeltaNamesTab7, MemoS Tryz.prog C m := xDeltaNamesCons (memoT_ok (ev_ok xDeltaNamesIdx xDeltaNamesCnt (or_ok (bld_ok xBld) (memos_ok xDeltaNamesH6)) xDeltaNamesNoR xDeltaNamesFol 100000) xDeltaNamesOk7) xDeltaNamesH6
theorem xDeltaNamesH8 : ∀ m ∈ xDeltaNamesTab8, MemoS Tryz.prog C m := xDeltaNamesCons (memoT_ok (ev_ok xDeltaNamesIdx xDeltaNamesCnt (or_ok (bld_ok xBld) (memos_ok xDeltaNamesH7)) xDeltaNamesNoR xDeltaNamesFol 100000) xDeltaNamesOk8) xDeltaNamesH7
theorem xDeltaNamesH9 : ∀ m ∈ xDeltaNamesTab9, MemoS Tryz.prog C m := xDeltaNamesCons (memoT_ok (ev_ok xDeltaNamesIdx xDeltaNamesCnt (or_ok (bld_ok xBld) (memos_ok xDeltaNamesH8)) xDeltaNamesNoR xDeltaNamesFol 100000) xDeltaNamesOk9) xDeltaNamesH8
theorem xDeltaNamesH10 : ∀ m ∈ xDeltaNamesTab10, MemoS Tryz.prog C m := xDeltaNamesCons (memoT_ok (ev_ok xDeltaNamesIdx xDeltaNamesCnt (or_ok (bld_ok xBld) (memos_ok xDeltaNamesH9)) xDeltaNamesNoR xDeltaNamesFol 100000) xDeltaNamesOk10) xDeltaNamesH9
theorem xDeltaNamesH11 : ∀ m ∈ xDeltaNamesTab11, MemoS Tryz.prog C m := xDeltaNamesCons (memoT_ok (ev_ok xDeltaNamesIdx xDeltaNamesCnt (or_ok (bld_ok xBld) (memos_ok xDeltaNamesH10)) xDeltaNamesNoR xDeltaNamesFol 100000) xDeltaNamesOk11) xDeltaNamesH10
theorem xDeltaNamesH12 : ∀ m ∈ xDeltaNamesTab12, MemoS Tryz.prog C m := xDeltaNamesCons (memoT_ok (ev_ok xDeltaNamesIdx xDeltaNamesCnt (or_ok (bld_ok xBld) (memos_ok xDeltaNamesH11)) xDeltaNamesNoR xDeltaNamesFol 100000) xDeltaNamesOk12) xDeltaNamesH11
theorem xDeltaNamesH13 : ∀ m ∈ xDeltaNamesTab13, MemoS Tryz.prog C m := xDeltaNamesCons (memoT_ok (ev_ok xDeltaNamesIdx xDeltaNamesCnt (or_ok (bld_ok xBld) (memos_ok xDeltaNamesH12)) xDeltaNamesNoR xDeltaNamesFol 100000) xDeltaNamesOk13) xDeltaNamesH12
theorem xDeltaNamesH14 : ∀ m ∈ xDeltaNamesTab14, MemoS Tryz.prog C m := xDeltaNamesCons (memoT_ok (ev_ok xDeltaNamesIdx xDeltaNamesCnt (or_ok (bld_ok xBld) (memos_ok xDeltaNamesH13)) xDeltaNamesNoR xDeltaNamesFol 100000) xDeltaNamesOk14) xDeltaNamesH13
theorem xDeltaNamesH15 : ∀ m ∈ xDeltaNamesTab15, MemoS Tryz.prog C m := xDeltaNamesCons (memoT_ok (ev_ok xDeltaNamesIdx xDeltaNamesCnt (or_ok (bld_ok xBld) (memos_ok xDeltaNamesH14)) xDeltaNamesNoR xDeltaNamesFol 100000) xDeltaNamesOk15) xDeltaNamesH14
theorem xDeltaNamesH16 : ∀ m ∈ xDeltaNamesTab16, MemoS Tryz.prog C m := xDeltaNamesCons (memoT_ok (ev_ok xDeltaNamesIdx xDeltaNamesCnt (or_ok (bld_ok xBld) (memos_ok xDeltaNamesH15)) xDeltaNamesNoR xDeltaNamesFol 100000) xDeltaNamesOk16) xDeltaNamesH15
theorem DeltaNames_ok {K : Bool → Heap → Prop} {H : Heap} (k : ∀ H2, H.le H2 → K true H2) : c_law24_DeltaNames C K H :=
  (ev_closed xDeltaNamesIdx xDeltaNamesCnt (or_ok (bld_ok xBld) (memos_ok xDeltaNamesH16)) xDeltaNamesNoR xDeltaNamesFol xDeltaNamesTrue H).mono fun u H2 ⟨hu, hle⟩ => ⟨true, hu, k H2 hle⟩
end
end Sx
end

