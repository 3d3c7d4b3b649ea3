/-
  Values that came in, of sizes within reach.
-/
import Derived.Test.YtlpjpjbgfffffaaDoorValR
set_option linter.unusedVariables false
set_option linter.unusedSimpArgs false
namespace Sx
open Go

section
variable {H : Type} {enc : TypeId × Value → H} {P : Program} {W : World}

theorem bytesw_of {m : Nat} {e : TypeId} {s : Sl} {css : List (List Value)} (he : P.underlying e = some (.int .u8)) (hl : css.length = s.len) (hr : rdsl (heapOf W) s css.flatten) (h : ∀ c ∈ css, c.length = 1 ∧ TrW P W m e c) :
    ∃ l : Str, rdsl (heapOf W) s (bytesV l) ∧ s.len = l.length := by
  have : ∃ l : Str, css.flatten = bytesV l ∧ l.length = css.length := by
    clear hl hr
    induction css with
    | nil => exact ⟨[], rfl, rfl⟩
    | cons c css ih =>
      obtain ⟨l, h1, h2⟩ := ih fun c hc => h c (List.mem_cons_of_mem _ hc)
      obtain ⟨x, hx, hw⟩ := (h c (List.mem_cons_self ..)).2.int he
      have hr : 0 ≤ x ∧ x ≤ 255 := by simpa [Lit.wf, IntKind.min, IntKind.max, IntKind.signed, IntKind.bits] using hw
      refine ⟨UInt8.ofNat x.toNat :: l, ?_, by simp [h2]⟩
      have hxx : x = ((UInt8.ofNat x.toNat).toNat : Int) := by rw [UInt8.toNat_ofNat']; omega
      rw [List.flatten_cons, h1, hx]
      simp only [bytesV, List.map_cons, List.cons_append, List.nil_append]
      rw [← hxx]
  obtain ⟨l, h1, h2⟩ := this
  exact ⟨l, by rw [← h1]; exact hr, by omega⟩

theorem rows_genw {t tl : TypeId} {css : List (List Value)} {s : Sl} (hl : css.length = s.len) (hr : rdsl (heapOf W) s css.flatten)
    (ih : ∀ c ∈ css, ∃ (v : V) (x : TV), c = T_api_Value.c x ∧ VIs (heapOf W) v x ∧ VB v) : ∃ l : List V, VRow (heapOf W) s l ∧ VBs l := by
  have key : ∀ (css : List (List Value)), (∀ c ∈ css, ∃ (v : V) (x : TV), c = T_api_Value.c x ∧ VIs (heapOf W) v x ∧ VB v) →
      ∃ (l : List V) (xs : List TV), css.flatten = xs.flatMap T_api_Value.c ∧ css.length = xs.length ∧ VsAre (heapOf W) l xs ∧ VBs l := by
    intro css
    induction css with
    | nil => intro _; exact ⟨[], [], rfl, rfl, trivial, trivial⟩
    | cons c css ihc =>
      intro hh
      obtain ⟨v, x, h1, h2, h3⟩ := hh c (List.mem_cons_self ..)
      obtain ⟨l, xs, g1, g2, g3, g4⟩ := ihc fun c' hc => hh c' (List.mem_cons_of_mem _ hc)
      exact ⟨v :: l, x :: xs, by rw [List.flatten_cons, List.flatMap_cons, g1, h1], by simp [g2], ⟨h2, g3⟩, ⟨h3, g4⟩⟩
  obtain ⟨l, xs, g1, g2, g3, g4⟩ := key css ih
  exact ⟨l, ⟨xs, by rw [← g1]; exact hr, by omega, g3⟩, g4⟩

theorem valw_of {t tl : TypeId} (hT : ValT P t tl) (hb : 1 ≤ P.bytesOf t) : ∀ (n : Nat) {cs : List Value}, TrW P W n t cs → ∃ (v : V) (y : TV), cs = T_api_Value.c y ∧ VIs (heapOf W) v y ∧ VB v := by
  intro n
  induction n using Nat.strongRecOn with
  | _ n ih =>
  intro cs h
  obtain ⟨fs, hu, hfs, ⟨f0, t0, a0, b0, c0, d0, e0⟩, ⟨f1, t1, a1, b1, c1, d1, e1⟩, ⟨f2, t2, a2, b2, c2, d2, e2⟩, ⟨f3, a3, b3, c3, e3⟩⟩ := hT.st
  obtain ⟨hl, m, rfl, hf⟩ := h.struct hu
  rw [hT.cells] at hl
  match cs, hl with
  | [q0, q1, q2, q3], _ =>
  have g0 := hf 0 f0 a0
  have g1 := hf 1 f1 a1
  have g2 := hf 2 f2 a2
  have g3 := hf 3 f3 a3
  rw [b0, c0, e0] at g0
  rw [b1, c1, e1] at g1
  rw [b2, c2, e2] at g2
  rw [b3, c3, e3] at g3
  simp at g0 g1 g2 g3
  obtain ⟨n0, k0, k2⟩ := g0.int d0
  obtain ⟨n1, l0, l2⟩ := g1.int d1
  obtain ⟨s2, m0, m1, m2⟩ := g2.str d2
  obtain ⟨s, css, m', hm', p0, p1, p2, p3, p4, p5, p6⟩ := g3.slice hT.sl hT.cells (by omega)
  have hmx : reachBytes = 140737488351232 := rfl
  rw [hmx] at p3 m2
  obtain ⟨l, r1, r2⟩ := rows_genw (t := t) (tl := tl) p4 p5 fun c hc => ih m' (by omega) (p6 c hc).2
  have hll := r1.len
  have hsl : s.len ≤ 140737488351232 := Nat.le_trans (Nat.le_mul_of_pos_right _ (by omega)) p3
  refine ⟨.mk n0 n1 s2 l, ⟨n0, n1, s2, s⟩, ?_, VIs_iff.2 ⟨rfl, rfl, rfl, r1⟩, ⟨?_, ?_, by omega, by omega, r2⟩⟩
  · injection k0 with k0
    injection l0 with l0
    injection m0 with m0
    injection p0 with p0
    subst k0; subst l0; subst m0; subst p0
    simp [T_api_Value.c]
  · simpa [Lit.wf, IntKind.min, IntKind.max, IntKind.signed, IntKind.bits] using k2
  · simpa [Lit.wf, IntKind.min, IntKind.max, IntKind.signed, IntKind.bits] using l2

theorem argw_val {t tl : TypeId} (hT : ValT P t tl) (hb : 1 ≤ P.bytesOf t) {base : Nat} {v : Value} {d : DataW H} {p : List MemPlace} (hv : Value.okWide P W .any base t v) (h : DataW.Trod enc P W 0 (fun _ => true) true t v d p) (hw : ∀ w ∈ d.weights P t, w ≤ reachBytes) :
    ∃ (u : V) (y : TV), v = .agg (T_api_Value.c y).toArray ∧ VIs (heapOf W) u y ∧ VB u := by
  obtain ⟨fs, hu, _⟩ := hT.st
  obtain ⟨cs, rfl, hl⟩ := WideShapes.okWide_struct hu hv
  obtain ⟨n, hn⟩ := TrW.of h hw
  obtain ⟨u, y, h1, h2, h3⟩ := valw_of hT hb n hn
  refine ⟨u, y, ?_, h2, h3⟩
  simp only [Value.cells] at h1
  rw [← h1]
end
end Sx
