/-
  How long the bytes of values that came in are.
-/
import Derived.Test.YtlpjpjbgfffffaaDoorCodeV6
import Derived.Test.YtlpjpjbgfffffaaDoorValW
set_option linter.unusedVariables false
namespace Sx
theorem vtot_bulk (v : V) : vtot v ≤ 13 * vbulk v := by
  have h : ∀ (l : List V), (∀ w ∈ l, vtot w ≤ 13 * vbulk w) → vtots l ≤ 13 * vbulks l := by
    intro l
    induction l with
    | nil => intro _; simp [vtots]
    | cons v l ih =>
      intro h
      have h1 := h v (List.mem_cons_self ..)
      have h2 := ih fun w hw => h w (List.mem_cons_of_mem _ hw)
      simp only [vtots, vbulks]; omega
  refine V.rec_ (P := fun v => vtot v ≤ 13 * vbulk v) (fun v ih => ?_) v
  obtain ⟨k, n, s, l⟩ := v
  have := h l ih
  simp only [vtot, vbulk]; omega
theorem vbulks_mem : ∀ {l : List V} {v : V}, v ∈ l → vbulk v ≤ vbulks l
  | w :: l, v, h => by
    simp only [vbulks]
    rcases List.mem_cons.1 h with rfl | h
    · omega
    · have := vbulks_mem h; omega
end Sx
