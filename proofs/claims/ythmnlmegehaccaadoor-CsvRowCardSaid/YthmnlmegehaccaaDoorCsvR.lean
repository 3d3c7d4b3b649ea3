/-
  Records that came in.
-/
import Derived.Test.YthmnlmegehaccaaDoorCsvP8
import Derived.Test.YthmnlmegehaccaaDoorSxDoor
set_option linter.unusedVariables false
namespace Sx
open Go
theorem rows_of {P : Program} {W : World} {m : Nat} {e e2 : TypeId} {s : Sl} {css : List (List Value)} (hm : s.len * P.bytesOf e ≤ reachBytes) (hb : P.bytesOf e = 24) (hb2 : P.bytesOf e2 = 16) (he : P.underlying e = some (.slice e2)) (he2 : P.underlying e2 = some .string) (hz : P.cellsOf e2 = 1) (hl : css.length = s.len) (hr : rdsl (heapOf W) s css.flatten) (h : ∀ c ∈ css, c.length = 1 ∧ TrW P W m e c) :
    ∃ l : List (List Str), Rows (heapOf W) s l ∧ Bnd l := by
  have hmx : reachBytes = 140737488351232 := rfl
  rw [hmx, hb] at hm
  obtain ⟨ss, h1, h2, h3⟩ := TrW.slices he hz (by omega) h
  have h4 : ∀ i, i < ss.length → ∃ c : List Str, ∀ s, ss[i]? = some s → rdsl (heapOf W) s (c.map sv) ∧ s.len = c.length ∧ c.length ≤ 140737488351232 ∧ ∀ f ∈ c, f.length ≤ 140737488351232 := fun i hi => by
    obtain ⟨css2, m2, h5, h6, h7, h8, h9, h10⟩ := h3 ss[i] (List.getElem_mem hi)
    obtain ⟨c, q1, q2, q3⟩ := TrW.strs he2 h10
    rw [hmx, hb2] at h7
    rw [hmx] at q3
    refine ⟨c, fun s hs => ?_⟩
    rw [List.getElem?_eq_getElem hi] at hs
    injection hs with hs
    subst hs
    exact ⟨by rw [← q1]; exact h9, by omega, by omega, q3⟩
  obtain ⟨l, hll, hlp⟩ := listOf h4
  refine ⟨l, ⟨ss, by rw [← h1]; exact hr, by omega, hll.symm, fun i s c hs hc => ?_⟩, by omega, fun r hr => ?_⟩
  · have := hlp i c hc s hs
    exact ⟨this.1, this.2.1⟩
  · obtain ⟨i, hi, rfl⟩ := List.getElem_of_mem hr
    have := (hlp i _ (List.getElem?_eq_getElem hi) ss[i] (List.getElem?_eq_getElem (by omega))).2.2
    exact ⟨by omega, fun f hf => by have := this.2 f hf; omega⟩
end Sx
