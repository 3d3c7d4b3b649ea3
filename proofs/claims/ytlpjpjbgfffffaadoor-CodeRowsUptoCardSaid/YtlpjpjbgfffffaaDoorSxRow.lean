/-
  What the arguments' reading tells: slices of bytes, of texts, of slices; the range of numbers.
-/
import Derived.Test.YtlpjpjbgfffffaaDoorSxUse2
set_option linter.unusedVariables false
namespace Sx
open Go
theorem wf_i64 {a : Int} (h : (Lit.int .i64 a).wf = true) : -9223372036854775808 ≤ a ∧ a ≤ 9223372036854775807 := by
  simpa [Lit.wf, IntKind.min, IntKind.max, IntKind.signed, IntKind.bits] using h
theorem wf_u8 {a : Int} (h : (Lit.int .u8 a).wf = true) : 0 ≤ a ∧ a ≤ 255 := by
  simpa [Lit.wf, IntKind.min, IntKind.max, IntKind.signed, IntKind.bits] using h
/-- a slice of bytes that came in -/
theorem bytes_of {P : Program} {W : World} {B m : Nat} {e : TypeId} {s : Sl} {css : List (List Value)} (he : P.underlying e = some (.int .u8)) (hl : css.length = s.len) (hr : rdsl (heapOf W) s css.flatten) (h : ∀ c ∈ css, c.length = 1 ∧ Tr P W B m e c) :
    ∃ l : Str, rdsl (heapOf W) s (bytesV l) ∧ s.len = l.length := by
  obtain ⟨l, h1, h2⟩ := Tr.bytes he h
  exact ⟨l, by rw [← h1]; exact hr, by omega⟩
/-- a slice of texts that came in -/
theorem strs_of {P : Program} {W : World} {B m : Nat} {e : TypeId} {s : Sl} {css : List (List Value)} (he : P.underlying e = some .string) (hl : css.length = s.len) (hr : rdsl (heapOf W) s css.flatten) (h : ∀ c ∈ css, c.length = 1 ∧ Tr P W B m e c) :
    ∃ l : List Str, rdsl (heapOf W) s (l.map sv) ∧ s.len = l.length ∧ ∀ c ∈ l, c.length ≤ B := by
  obtain ⟨l, h1, h2, h3⟩ := Tr.strs he h
  exact ⟨l, by rw [← h1]; exact hr, by omega, fun c hc => (h3 c hc).2⟩
/-- a slice of slices of bytes that came in -/
theorem bytess_of {P : Program} {W : World} {B m : Nat} {e e2 : TypeId} {s : Sl} {css : List (List Value)} (he : P.underlying e = some (.slice e2)) (he2 : P.underlying e2 = some (.int .u8)) (hz : P.cellsOf e2 = 1) (hl : css.length = s.len) (hr : rdsl (heapOf W) s css.flatten) (h : ∀ c ∈ css, c.length = 1 ∧ Tr P W B m e c) :
    ∃ (ss : List Sl) (l : List Str), rdsl (heapOf W) s (ss.map slv) ∧ s.len = ss.length ∧ ss.length = l.length ∧ (∀ (i : Nat) (s : Sl) (c : Str), ss[i]? = some s → l[i]? = some c → rdsl (heapOf W) s (bytesV c) ∧ s.len = c.length) ∧ ∀ c ∈ l, c.length ≤ B := by
  obtain ⟨ss, h1, h2, h3⟩ := Tr.slices he hz (by omega) h
  have h4 : ∀ i, i < ss.length → ∃ c : Str, ∀ s, ss[i]? = some s → rdsl (heapOf W) s (bytesV c) ∧ s.len = c.length ∧ c.length ≤ B := fun i hi => by
    obtain ⟨css2, m2, h5, h6, h7, h8, h9, h10⟩ := h3 ss[i] (List.getElem_mem hi)
    obtain ⟨c, hc, hcl⟩ := bytes_of he2 h8 h9 h10
    refine ⟨c, fun s hs => ?_⟩
    rw [List.getElem?_eq_getElem hi] at hs
    injection hs with hs
    subst hs
    exact ⟨hc, hcl, by omega⟩
  obtain ⟨l, hll, hlp⟩ := listOf h4
  refine ⟨ss, l, by rw [← h1]; exact hr, by omega, hll.symm, fun i s c hs hc => ?_, fun c hc => ?_⟩
  · have := hlp i c hc s hs
    exact ⟨this.1, this.2.1⟩
  · obtain ⟨i, hi, rfl⟩ := List.getElem_of_mem hc
    exact (hlp i _ (List.getElem?_eq_getElem hi) ss[i] (List.getElem?_eq_getElem (by omega))).2.2
end Sx
