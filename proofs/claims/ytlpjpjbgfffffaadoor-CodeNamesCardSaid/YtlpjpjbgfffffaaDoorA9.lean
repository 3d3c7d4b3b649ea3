/-
  Texts of this family, one behind the other: CodeN.
-/
import Derived.Test.YtlpjpjbgfffffaaDoorA8
noncomputable section
set_option linter.unusedVariables false
set_option linter.unusedSimpArgs false
namespace Sx
open Go Go.Proofs
theorem mIdx : ∀ f, mIds.idx = some f → ExtOk Tryd.prog f Extern.BytealgIndexByte.indexByte := fun f h => by
  cases h; exact ext_internal_bytealg_IndexByteString
theorem mCnt : ∀ f, mIds.cnt = some f → ExtOk Tryd.prog f Extern.BytealgCount.count := fun f h => by cases h
theorem mNoR : ∀ (f : FuncId) (fn : Func), Tryd.prog.funcs[f]? = some fn → (fn.name == "runtime.NumGoroutine") = false := fun f fn h => by
  have h1 := List.all_eq_true.1 mNo fn (by
    rw [← Array.getElem?_toList] at h
    exact List.mem_of_getElem? h)
  simpa using h1
section
variable {C : Ctx}
theorem mS {l : List Memo} (h : ∀ m ∈ l, MemoS Tryd.prog C m) : SelfOk Tryd.prog C mIds (ev Tryd.prog mIds (memosA l) 100000) := ev_ok mIdx mCnt (memos_ok h) mNoR mFol 100000
theorem mH0 : ∀ m ∈ mTab0, MemoS Tryd.prog C m := fun m h => by cases h
theorem mCons {l : List Memo} {m : Memo} (h1 : MemoS Tryd.prog C m) (h2 : ∀ m ∈ l, MemoS Tryd.prog C m) : ∀ m' ∈ m :: l, MemoS Tryd.prog C m' := fun m' h => by
  rcases List.mem_cons.1 h with rfl | h
  · exact h1
  · exact h2 m' h
theorem mH1 : ∀ m ∈ mTab1, MemoS Tryd.prog C m := mCons (memoT_ok (mS mH0) mOk1) mH0
theorem mH2 : ∀ m ∈ mTab2, MemoS Tryd.prog C m := mCons (memoT_ok (mS mH1) mOk2) mH1
theorem mH3 : ∀ m ∈ mTab3, MemoS Tryd.prog C m := mCons (memoT_ok (mS mH2) mOk3) mH2
theorem mH4 : ∀ m ∈ mTab4, MemoS Tryd.prog C m := mCons (memoT_ok (mS mH3) mOk4) mH3
theorem mH5 : ∀ m ∈ mTab5, MemoS Tryd.prog C m := mCons (memoT_ok (mS mH4) mOk5) mH4
theorem CodeNames_ok {K : Bool → Heap → Prop} {H : Heap} (k : ∀ H2, K true H2) : c_law03_CodeNames C K H :=
  (ev_closed mIdx mCnt (memos_ok mH5) mNoR mFol mLaw H).mono fun u H2 ⟨hu, _⟩ => ⟨true, hu, k H2⟩
end
end Sx
end

