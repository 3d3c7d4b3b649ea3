/-
  What a door's row wants: a world in which listed variables hold what is laid; slices of truth values.
-/
import Derived.Test.YtlpjpjbgfffffaaDoorSxRow
import Derived.Deep.DeepHandedRow
set_option linter.unusedVariables false
namespace Sx
open Go
/-- the cells of a datum of numbers, texts, truth values -/
def lcells {H : Type} : Nat → DataW H → List Value
  | 0, _ => []
  | n + 1, .lit (.int k x) => [.int k x]
  | n + 1, .lit (.bool b) => [.bool b]
  | n + 1, .lit (.string s) => [.string ⟨s.toArray⟩]
  | n + 1, .agg ds => ds.flatMap (lcells n)
  | n + 1, _ => []
/-- the settled world, in which these blocks hold these data -/
noncomputable def laidW (P : Program) (os : Os) (l : List (Nat × List Value)) : World :=
  { World.holding P os ⟨#[], #[], []⟩ with heap := l.foldl (fun h x => h.modify x.1 (fun o => match o with | .cells _ t frozen => .cells x.2.toArray t frozen | o => o)) (World.holding P os ⟨#[], #[], []⟩).heap }
theorem weightsAll_mem {H : Type} {P : Program} {e : TypeId} : ∀ {l : List (DataW H)} {d : DataW H} {w : Nat}, d ∈ l → w ∈ d.weights P e → w ∈ DataW.weightsAll P e l
  | y :: l, d, w, h, hw => by
    simp only [DataW.weightsAll, List.mem_append]
    rcases List.mem_cons.1 h with rfl | h
    · exact .inl hw
    · exact .inr (weightsAll_mem h hw)
theorem weightsEach_mem {H : Type} {P : Program} : ∀ {ts : List TypeId} {l : List (DataW H)} {i : Nat} {t : TypeId} {d : DataW H} {w : Nat}, ts[i]? = some t → l[i]? = some d → w ∈ d.weights P t → w ∈ DataW.weightsEach P ts l
  | [], l, i, t, d, w, h, _, _ => by simp at h
  | t' :: ts, [], i, t, d, w, _, h, _ => by simp at h
  | t' :: ts, y :: l, 0, t, d, w, h, h2, hw => by
    simp at h h2; subst h; subst h2
    simp only [DataW.weightsEach, List.mem_append]; exact .inl hw
  | t' :: ts, y :: l, i + 1, t, d, w, h, h2, hw => by
    simp only [DataW.weightsEach, List.mem_append]; exact .inr (weightsEach_mem (i := i) (by simpa using h) (by simpa using h2) hw)

section
variable {H : Type} {enc : TypeId × Value → H} {P : Program}
/-- what a value that came in, of sizes within reach, says of the memory there -/
def TrW (P : Program) (W : World) (n : Nat) (t : TypeId) (cs : List Value) : Prop :=
  ∃ (H : Type) (enc : TypeId × Value → H) (x : DataW H × List MemPlace), DataW.trod enc P W 0 (fun _ => true) true n t cs = some x ∧ ∀ w ∈ x.1.weights P t, w ≤ reachBytes
theorem TrW.of {W : World} {t : TypeId} {v : Value} {d : DataW H} {p : List MemPlace} (h : DataW.Trod enc P W 0 (fun _ => true) true t v d p) (hw : ∀ w ∈ d.weights P t, w ≤ reachBytes) : ∃ n, TrW P W n t v.cells.toList := by
  obtain ⟨n, hn⟩ := h
  exact ⟨n, H, enc, _, hn, hw⟩
theorem TrW.tr {W : World} {n : Nat} {t : TypeId} {cs : List Value} (h : TrW P W n t cs) : ∃ B, Tr P W B n t cs := by
  obtain ⟨H, enc, x, h, _⟩ := h
  exact ⟨_, H, enc, x, h, Nat.le_refl _⟩
theorem TrW.int {W : World} {n : Nat} {t : TypeId} {cs : List Value} {k : IntKind} (h : TrW P W n t cs) (ht : P.underlying t = some (.int k)) : ∃ x, cs = [.int k x] ∧ (Lit.int k x).wf = true := by
  obtain ⟨B, h⟩ := h.tr
  exact h.int ht
theorem TrW.bool {W : World} {n : Nat} {t : TypeId} {cs : List Value} (h : TrW P W n t cs) (ht : P.underlying t = some .bool) : ∃ x, cs = [.bool x] := by
  obtain ⟨B, h⟩ := h.tr
  exact h.bool ht
theorem TrW.str {W : World} {n : Nat} {t : TypeId} {cs : List Value} (h : TrW P W n t cs) (ht : P.underlying t = some .string) : ∃ s : Str, cs = [sv s] ∧ s.length ≤ maxLen ∧ s.length ≤ reachBytes := by
  obtain ⟨H, enc, x, h, hB⟩ := h
  obtain ⟨s, h1, hx, h2⟩ := DataW.trod_string ht h
  refine ⟨s.data.toList, ?_, by rw [Array.length_toList]; exact h2, ?_⟩
  · rw [h1]; simp [sv]
  · rw [hx] at hB; simp only [DataW.weights] at hB; simpa using hB _ (List.mem_singleton.2 rfl)

/-- a slice that came in: its elements' cells -/
theorem TrW.slice {W : World} {n : Nat} {t e : TypeId} {cs : List Value} {z : Nat} (h : TrW P W n t cs) (ht : P.underlying t = some (.slice e)) (hz : P.cellsOf e = z) (hz0 : 0 < z) :
    ∃ (s : Sl) (css : List (List Value)) (m : Nat), m < n ∧ cs = [slv s] ∧ s.len ≤ s.cap ∧ s.cap ≤ maxLen ∧ s.len * P.bytesOf e ≤ reachBytes ∧ css.length = s.len ∧ rdsl (heapOf W) s css.flatten ∧ ∀ c ∈ css, c.length = z ∧ TrW P W m e c := by
  obtain ⟨H, enc, x, h, hB⟩ := h
  rcases DataW.trod_slice ht h with ⟨h0, _⟩ | ⟨a, len, cap, elems, rest, m, rfl, hcs, hx, hb, hl, hm, hlen, hel, hsp, hns⟩
  · have : 0 < n := by cases n with
      | zero => simp [DataW.trod] at h
      | succ n => omega
    exact ⟨Sl.nil, [], 0, this, h0, Nat.le_refl _, by simp [Sl.nil], by simp [Sl.nil], rfl, .inl rfl, fun c hc => by cases hc⟩
  · subst hz
    rw [hx] at hB
    simp only [DataW.weights, ht, List.mem_cons, List.mem_append] at hB
    have hBl := hB _ (.inl rfl)
    rw [List.length_map, Nat.add_mul] at hBl
    have hall : ∀ i, i < len → ∃ c, W.cells? 0 (a.add (i * P.cellsOf e)) (P.cellsOf e) = some c ∧ TrW P W m e c := by
      intro i hi
      have h1 := hel i hi
      have h2 : i < elems.length := by omega
      rw [List.getElem?_eq_getElem h2] at h1
      rw [Option.bind_eq_some_iff] at h1
      obtain ⟨c, hc, ht⟩ := h1
      exact ⟨c, hc, H, enc, _, ht, fun w hw => hB w (.inr (.inl (weightsAll_mem (List.mem_map_of_mem (f := (·.1)) (List.getElem_mem h2)) hw)))⟩
    obtain ⟨css, hcl, hcss⟩ := listOf hall
    obtain ⟨b, o, sp⟩ := a
    refine ⟨⟨some (b, o), len, cap, sp⟩, css, m, Nat.lt_succ_self _, by rw [hcs]; rfl, hl, hm, by dsimp only; rw [← hlen]; omega, hcl, ?_, fun c hc => ?_⟩
    · rcases Nat.eq_zero_or_pos len with h0 | h0
      · left
        have : css = [] := List.length_eq_zero_iff.1 (by omega)
        simp [this]
      · obtain ⟨c0, hc0, _⟩ := hall 0 h0
        obtain ⟨_, hl0, hcell0⟩ := World.cells?_some hc0
        have hsp0 : sp = none := by
          have h1 := hcell0 0 hz0
          rw [List.getElem?_eq_getElem (by omega)] at h1
          have := cell_nospot h1
          simpa [Addr.add] using this
        subst hsp0
        right
        refine ⟨rfl, (b, o), rfl, rds_flat (z := P.cellsOf e) (fun c hc => ?_) fun i c hc => ?_⟩
        · obtain ⟨i, hi, rfl⟩ := List.getElem_of_mem hc
          obtain ⟨h1, _⟩ := hcss i _ (List.getElem?_eq_getElem hi)
          exact (World.cells?_some h1).2.1
        · obtain ⟨h1, _⟩ := hcss i c hc
          obtain ⟨_, hcl1, hcell⟩ := World.cells?_some h1
          refine rds_of fun j v hj => rd_heapOf ?_
          have hjl : j < P.cellsOf e := by rw [← hcl1]; exact (List.getElem?_eq_some_iff.1 hj).1
          have h2 := hcell j hjl
          rw [hj] at h2
          rw [← h2]
          have e1 : (⟨b, o, none⟩ : Addr) = adv (b, o) := rfl
          rw [e1, adv_add, adv_add]
    · obtain ⟨i, hi, rfl⟩ := List.getElem_of_mem hc
      obtain ⟨h1, h2⟩ := hcss i _ (List.getElem?_eq_getElem hi)
      exact ⟨(World.cells?_some h1).2.1, h2⟩

/-- a struct's fields -/
theorem TrW.struct {W : World} {n : Nat} {t : TypeId} {fs : Array Field} {cs : List Value} (h : TrW P W n t cs) (ht : P.underlying t = some (.struct fs)) :
    cs.length = P.cellsOf t ∧ ∃ m, n = m + 1 ∧ ∀ (i : Nat) (f : Field), fs[i]? = some f → TrW P W m f.type ((cs.drop f.offset).take (P.cellsOf f.type)) := by
  obtain ⟨H, enc, x, h, hB⟩ := h
  obtain ⟨xs, m, rfl, hx, hl, hxl, hf⟩ := DataW.trod_struct ht h
  refine ⟨hl, m, rfl, fun i f hi => ?_⟩
  have h1 := hf i f hi
  have h2 : i < fs.size := (Array.getElem?_eq_some_iff.1 hi).1
  rw [List.getElem?_eq_getElem (by omega)] at h1
  refine ⟨H, enc, _, h1, fun w hw => hB w ?_⟩
  rw [hx]
  simp only [DataW.weights, ht]
  exact weightsEach_mem (i := i) (by simp [hi]) (by rw [List.getElem?_map, List.getElem?_eq_getElem (by omega)]; rfl) hw

/-! ### an argument -/
theorem wat {ts : List TypeId} {ds : List (DataW H)} (h : (DataW.weightsEach P ts ds).all (· ≤ reachBytes) = true) {i : Nat} {t : TypeId} {d : DataW H} (ht : ts[i]? = some t) (hd : ds[i]? = some d) : ∀ w ∈ d.weights P t, w ≤ reachBytes := fun w hw => by
  have := List.all_eq_true.1 h w (weightsEach_mem ht hd hw)
  simpa using this
theorem argw_slice {W : World} {base : Nat} {t e : TypeId} {z : Nat} {v : Value} {d : DataW H} {p : List MemPlace} (ht : P.underlying t = some (.slice e)) (hz : P.cellsOf e = z) (hz0 : 0 < z) (hv : Value.okWide P W .any base t v) (h : DataW.Trod enc P W 0 (fun _ => true) true t v d p) (hw : ∀ w ∈ d.weights P t, w ≤ reachBytes) :
    ∃ (s : Sl) (css : List (List Value)) (m : Nat), v = slv s ∧ s.len ≤ s.cap ∧ s.cap ≤ maxLen ∧ s.len * P.bytesOf e ≤ reachBytes ∧ css.length = s.len ∧ rdsl (heapOf W) s css.flatten ∧ ∀ c ∈ css, c.length = z ∧ TrW P W m e c := by
  obtain ⟨a, l, c, rfl⟩ := WideShapes.okWide_slice ht hv
  obtain ⟨n, hn⟩ := TrW.of h hw
  obtain ⟨s, css, m, _, h1, h2⟩ := hn.slice ht hz hz0
  refine ⟨s, css, m, ?_, h2⟩
  simpa [Value.cells] using h1
theorem argw_struct {W : World} {base : Nat} {t : TypeId} {fs : Array Field} {v : Value} {d : DataW H} {p : List MemPlace} (ht : P.underlying t = some (.struct fs)) (hv : Value.okWide P W .any base t v) (h : DataW.Trod enc P W 0 (fun _ => true) true t v d p) (hw : ∀ w ∈ d.weights P t, w ≤ reachBytes) :
    ∃ (cs : List Value) (n : Nat), v = .agg cs.toArray ∧ cs.length = P.cellsOf t ∧ TrW P W n t cs := by
  obtain ⟨cs, rfl, hl⟩ := WideShapes.okWide_struct ht hv
  obtain ⟨n, hn⟩ := TrW.of h hw
  exact ⟨cs.toList, n, by simp, by simpa using hl, by simpa [Value.cells] using hn⟩
theorem argw_str {W : World} {base : Nat} {t : TypeId} {v : Value} {d : DataW H} {p : List MemPlace} (ht : P.underlying t = some .string) (hv : Value.okWide P W .any base t v) (h : DataW.Trod enc P W 0 (fun _ => true) true t v d p) (hw : ∀ w ∈ d.weights P t, w ≤ reachBytes) : ∃ s : Str, v = sv s ∧ s.length ≤ reachBytes := by
  obtain ⟨s, rfl⟩ := WideShapes.okWide_string ht hv
  obtain ⟨n, hn⟩ := TrW.of h hw
  obtain ⟨s', h1, _, h2⟩ := hn.str ht
  refine ⟨s', ?_, h2⟩
  simpa [Value.cells] using h1

/-! ### elements -/
theorem TrW.strs {W : World} {m : Nat} {e : TypeId} {css : List (List Value)} (ht : P.underlying e = some .string) (h : ∀ c ∈ css, c.length = 1 ∧ TrW P W m e c) : ∃ l : List Str, css.flatten = l.map sv ∧ l.length = css.length ∧ ∀ s ∈ l, s.length ≤ reachBytes := by
  induction css with
  | nil => exact ⟨[], rfl, rfl, fun s hs => by cases hs⟩
  | cons c css ih =>
    obtain ⟨l, h1, h2, h3⟩ := ih fun c hc => h c (List.mem_cons_of_mem _ hc)
    obtain ⟨s, hs, _, hl⟩ := (h c (List.mem_cons_self ..)).2.str ht
    refine ⟨s :: l, by simp [h1, hs], by simp [h2], fun x hx => ?_⟩
    rcases List.mem_cons.1 hx with rfl | hx
    · exact hl
    · exact h3 x hx
theorem TrW.slices {W : World} {m : Nat} {e e2 : TypeId} {css : List (List Value)} {z : Nat} (ht : P.underlying e = some (.slice e2)) (hz : P.cellsOf e2 = z) (hz0 : 0 < z) (h : ∀ c ∈ css, c.length = 1 ∧ TrW P W m e c) :
    ∃ ss : List Sl, css.flatten = ss.map slv ∧ ss.length = css.length ∧ ∀ s ∈ ss, ∃ (css : List (List Value)) (m : Nat), s.len ≤ s.cap ∧ s.cap ≤ maxLen ∧ s.len * P.bytesOf e2 ≤ reachBytes ∧ css.length = s.len ∧ rdsl (heapOf W) s css.flatten ∧ ∀ c ∈ css, c.length = z ∧ TrW P W m e2 c := by
  induction css with
  | nil => exact ⟨[], rfl, rfl, fun s hs => by cases hs⟩
  | cons c css ih =>
    obtain ⟨l, h1, h2, h3⟩ := ih fun c hc => h c (List.mem_cons_of_mem _ hc)
    obtain ⟨s, css', m', _, hs, hl⟩ := (h c (List.mem_cons_self ..)).2.slice ht hz hz0
    refine ⟨s :: l, by simp [h1, hs], by simp [h2], fun y hy => ?_⟩
    rcases List.mem_cons.1 hy with rfl | hy
    · exact ⟨css', m', hl⟩
    · exact h3 y hy
end
/-- a slice of truth values that came in -/
theorem bools_of {P : Program} {W : World} {m : Nat} {e : TypeId} {s : Sl} {css : List (List Value)} (he : P.underlying e = some .bool) (hl : css.length = s.len) (hr : rdsl (heapOf W) s css.flatten) (h : ∀ c ∈ css, c.length = 1 ∧ TrW P W m e c) :
    ∃ l : List Bool, rdsl (heapOf W) s (l.map fun x => Value.bool x) ∧ s.len = l.length := by
  have : ∃ l : List Bool, css.flatten = l.map (fun x => Value.bool x) ∧ l.length = css.length := by
    clear hl hr
    induction css with
    | nil => exact ⟨[], rfl, rfl⟩
    | cons c css ih =>
      obtain ⟨l, h1, h2⟩ := ih fun c hc => h c (List.mem_cons_of_mem _ hc)
      obtain ⟨x, hx⟩ := (h c (List.mem_cons_self ..)).2.bool he
      exact ⟨x :: l, by simp [h1, hx], by simp [h2]⟩
  obtain ⟨l, h1, h2⟩ := this
  exact ⟨l, by rw [← h1]; exact hr, by omega⟩
end Sx
