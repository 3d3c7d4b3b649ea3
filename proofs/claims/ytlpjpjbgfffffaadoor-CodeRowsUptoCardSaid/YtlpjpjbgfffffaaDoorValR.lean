/-
  Values that came in.
-/
import Derived.Test.YtlpjpjbgfffffaaDoorValU
import Derived.Test.YtlpjpjbgfffffaaDoorSxDoor
set_option linter.unusedVariables false
set_option linter.unusedSimpArgs false
namespace Sx
open Go

section
variable {H : Type} {enc : TypeId × Value → H} {P : Program} {W : World}

/-- a slice that came in: its elements' cells and data -/
theorem trod_cells {t e : TypeId} {n : Nat} {cs : List Value} {x : DataW H × List MemPlace} (ht : P.underlying t = some (.slice e)) (hz0 : 0 < P.cellsOf e) (h : DataW.trod enc P W 0 (fun _ => true) true n t cs = some x) :
    ∃ (s : Sl) (css : List (List Value)) (ys : List (DataW H × List MemPlace)) (m : Nat), m < n ∧ cs = [slv s] ∧ s.len ≤ s.cap ∧ css.length = s.len ∧ ys.length = s.len ∧ rdsl (heapOf W) s css.flatten ∧ sizeDs (ys.map (·.1)) + 1 ≤ sizeD x.1 ∧
      ∀ (i : Nat) (c : List Value) (y : DataW H × List MemPlace), css[i]? = some c → ys[i]? = some y → c.length = P.cellsOf e ∧ DataW.trod enc P W 0 (fun _ => true) true m e c = some y := by
  rcases DataW.trod_slice ht h with ⟨h0, hx⟩ | ⟨a, len, cap, elems, rest, m, rfl, hcs, hx, hb, hl, hm, hlen, hel, hsp, hns⟩
  · have : 0 < n := by cases n with
      | zero => simp [DataW.trod] at h
      | succ n => omega
    exact ⟨Sl.nil, [], [], 0, this, h0, Nat.le_refl _, rfl, rfl, .inl rfl, by rw [hx]; simp [sizeD, sizeDs], fun i c y hc => by simp at hc⟩
  · have hall : ∀ i, i < len → ∃ c, W.cells? 0 (a.add (i * P.cellsOf e)) (P.cellsOf e) = some c ∧ ∀ y, elems[i]? = some y → DataW.trod enc P W 0 (fun _ => true) true m e c = some y := by
      intro i hi
      have h1 := hel i hi
      have h2 : i < elems.length := by omega
      rw [List.getElem?_eq_getElem h2] at h1
      rw [Option.bind_eq_some_iff] at h1
      obtain ⟨c, hc, ht⟩ := h1
      exact ⟨c, hc, fun y hy => by rw [List.getElem?_eq_getElem h2] at hy; injection hy with hy; subst hy; exact ht⟩
    obtain ⟨css, hcl, hcss⟩ := listOf hall
    obtain ⟨b, o, sp⟩ := a
    refine ⟨⟨some (b, o), len, cap, sp⟩, css, elems, m, Nat.lt_succ_self _, by rw [hcs]; rfl, hl, hcl, hlen, ?_, by rw [hx]; simp only [sizeD]; omega, fun i c y hc hy => ?_⟩
    · rcases Nat.eq_zero_or_pos len with h0 | h0
      · left
        have : css = [] := List.length_eq_zero_iff.1 (by omega)
        simp [this]
      · obtain ⟨c0, hc0, _⟩ := hall 0 h0
        obtain ⟨_, hl0, hcell0⟩ := World.cells?_some hc0
        have hsp0 : sp = none := by
          have h1 := hcell0 0 hz0
          rw [List.getElem?_eq_getElem (by omega)] at h1
          have := cell_nospot h1
          simpa [Addr.add] using this
        subst hsp0
        right
        refine ⟨rfl, (b, o), rfl, rds_flat (z := P.cellsOf e) (fun c hc => ?_) fun i c hc => ?_⟩
        · obtain ⟨i, hi, rfl⟩ := List.getElem_of_mem hc
          obtain ⟨h1, _⟩ := hcss i _ (List.getElem?_eq_getElem hi)
          exact (World.cells?_some h1).2.1
        · obtain ⟨h1, _⟩ := hcss i c hc
          obtain ⟨_, hcl1, hcell⟩ := World.cells?_some h1
          refine rds_of fun j v hj => rd_heapOf ?_
          have hjl : j < P.cellsOf e := by rw [← hcl1]; exact (List.getElem?_eq_some_iff.1 hj).1
          have h2 := hcell j hjl
          rw [hj] at h2
          rw [← h2]
          have e1 : (⟨b, o, none⟩ : Addr) = adv (b, o) := rfl
          rw [e1, adv_add, adv_add]
    · obtain ⟨h1, h2⟩ := hcss i c hc
      exact ⟨(World.cells?_some h1).2.1, h2 y hy⟩

/-- the type of values -/
structure ValT (P : Program) (t tl : TypeId) : Prop where
  st : ∃ fs : Array Field, P.underlying t = some (.struct fs) ∧ fs.size = 4 ∧ (∃ f tk, fs[0]? = some f ∧ f.type = tk ∧ f.offset = 0 ∧ P.underlying tk = some (.int .u8) ∧ P.cellsOf tk = 1) ∧ (∃ f tk, fs[1]? = some f ∧ f.type = tk ∧ f.offset = 1 ∧ P.underlying tk = some (.int .i64) ∧ P.cellsOf tk = 1) ∧ (∃ f tk, fs[2]? = some f ∧ f.type = tk ∧ f.offset = 2 ∧ P.underlying tk = some .string ∧ P.cellsOf tk = 1) ∧ (∃ f, fs[3]? = some f ∧ f.type = tl ∧ f.offset = 3 ∧ P.cellsOf tl = 1)
  cells : P.cellsOf t = 4
  sl : P.underlying tl = some (.slice t)

mutual
def vbulk : V → Nat
  | .mk k n s l => vbulks l + s.length + 1
def vbulks : List V → Nat
  | [] => 0
  | v :: l => vbulk v + vbulks l
end
theorem vbulk_eq (v : V) : vbulk v = vbulks v.l + v.s.length + 1 := by obtain ⟨k, n, s, l⟩ := v; rfl
theorem vbulks_len : ∀ l : List V, l.length ≤ vbulks l
  | [] => by simp [vbulks]
  | v :: l => by have := vbulks_len l; have := vbulk_eq v; simp only [vbulks, List.length_cons]; omega
theorem vsize_bulk (v : V) : vsize v ≤ vbulk v := by
  have h : ∀ (l : List V), (∀ w ∈ l, vsize w ≤ vbulk w) → vsizes l ≤ vbulks l := by
    intro l
    induction l with
    | nil => intro _; simp [vsizes]
    | cons v l ih =>
      intro h
      have h1 := h v (List.mem_cons_self ..)
      have h2 := ih fun w hw => h w (List.mem_cons_of_mem _ hw)
      simp only [vsizes, vbulks]; omega
  refine V.rec_ (P := fun v => vsize v ≤ vbulk v) (fun v ih => ?_) v
  obtain ⟨k, n, s, l⟩ := v
  have := h l ih
  simp only [vsize, vbulk]; omega

theorem rows_gen {t tl : TypeId} (hT : ValT P t tl) {css : List (List Value)} {ys : List (DataW H × List MemPlace)} {m : Nat} {s : Sl} (hl : css.length = s.len) (hy : ys.length = s.len) (hr : rdsl (heapOf W) s css.flatten)
    (ih : ∀ (i : Nat) (c : List Value) (y : DataW H × List MemPlace), css[i]? = some c → ys[i]? = some y → ∃ (v : V) (x : TV), c = T_api_Value.c x ∧ VIs (heapOf W) v x ∧ VB v ∧ vbulk v ≤ sizeD y.1) :
    ∃ l : List V, VRow (heapOf W) s l ∧ VBs l ∧ vbulks l ≤ sizeDs (ys.map (·.1)) := by
  have key : ∀ (css : List (List Value)) (ys : List (DataW H × List MemPlace)), css.length = ys.length → (∀ (i : Nat) (c : List Value) (y : DataW H × List MemPlace), css[i]? = some c → ys[i]? = some y → ∃ (v : V) (x : TV), c = T_api_Value.c x ∧ VIs (heapOf W) v x ∧ VB v ∧ vbulk v ≤ sizeD y.1) →
      ∃ (l : List V) (xs : List TV), css.flatten = xs.flatMap T_api_Value.c ∧ css.length = xs.length ∧ VsAre (heapOf W) l xs ∧ VBs l ∧ vbulks l ≤ sizeDs (ys.map (·.1)) := by
    intro css
    induction css with
    | nil => intro ys h _; exact ⟨[], [], rfl, rfl, trivial, trivial, by simp [vbulks]⟩
    | cons c css ihc =>
      intro ys h hh
      cases ys with
      | nil => simp at h
      | cons y ys =>
        obtain ⟨v, x, h1, h2, h3, h4⟩ := hh 0 c y rfl rfl
        obtain ⟨l, xs, g1, g2, g3, g4, g5⟩ := ihc ys (by simpa using h) fun i c' y' a b => hh (i + 1) c' y' (by simpa using a) (by simpa using b)
        refine ⟨v :: l, x :: xs, by rw [List.flatten_cons, List.flatMap_cons, g1, h1], by simp [g2], ⟨h2, g3⟩, ⟨h3, g4⟩, ?_⟩
        simp only [vbulks, List.map_cons, sizeDs]; omega
  obtain ⟨l, xs, g1, g2, g3, g4, g5⟩ := key css ys (by omega) ih
  exact ⟨l, ⟨xs, by rw [← g1]; exact hr, by omega, g3⟩, g4, g5⟩

theorem val_of {t tl : TypeId} (hT : ValT P t tl) : ∀ (n : Nat) {cs : List Value} {x : DataW H × List MemPlace}, DataW.trod enc P W 0 (fun _ => true) true n t cs = some x → sizeD x.1 ≤ 1000000000 → ∃ (v : V) (y : TV), cs = T_api_Value.c y ∧ VIs (heapOf W) v y ∧ VB v ∧ vbulk v ≤ sizeD x.1 := by
  intro n
  induction n using Nat.strongRecOn with
  | _ n ih =>
  intro cs x h hsz
  obtain ⟨fs, hu, hfs, ⟨f0, t0, a0, b0, c0, d0, e0⟩, ⟨f1, t1, a1, b1, c1, d1, e1⟩, ⟨f2, t2, a2, b2, c2, d2, e2⟩, ⟨f3, a3, b3, c3, e3⟩⟩ := hT.st
  obtain ⟨xs, m, rfl, hx, hl, hxl, hf⟩ := DataW.trod_struct hu h
  rw [hT.cells] at hl
  rw [hfs] at hxl
  match cs, hl with
  | [q0, q1, q2, q3], _ =>
  match xs, hxl with
  | [y0, y1, y2, y3], _ =>
  have g0 := hf 0 f0 a0
  have g1 := hf 1 f1 a1
  have g2 := hf 2 f2 a2
  have g3 := hf 3 f3 a3
  rw [b0, c0, e0] at g0
  rw [b1, c1, e1] at g1
  rw [b2, c2, e2] at g2
  rw [b3, c3, e3] at g3
  simp at g0 g1 g2 g3
  obtain ⟨n0, k0, k1, k2⟩ := DataW.trod_int d0 g0
  obtain ⟨n1, l0, l1, l2⟩ := DataW.trod_int d1 g1
  obtain ⟨s2, m0, m1, m2⟩ := DataW.trod_string d2 g2
  obtain ⟨s, css, ys, m', hm', p0, p1, p2, p3, p4, p5, p6⟩ := trod_cells hT.sl (by rw [hT.cells]; omega) g3
  have hsx : sizeD x.1 = sizeD y0.1 + (sizeD y1.1 + (sizeD y2.1 + (sizeD y3.1 + 0))) + 1 := by rw [hx]; simp [sizeD, sizeDs]
  have h0 := sizeD_pos y0.1
  have h1 := sizeD_pos y1.1
  have h2 : sizeD y2.1 = s2.data.toList.length + 1 := by rw [m1]; simp [sizeD]
  obtain ⟨l, r1, r2, r3⟩ := rows_gen (H := H) hT p2 p3 p4 (m := m') fun i c y hc hy => by
    obtain ⟨_, h5⟩ := p6 i c y hc hy
    have h6 := sizeDs_mem (List.mem_map_of_mem (f := (·.1)) (List.mem_of_getElem? hy))
    exact ih m' (by omega) h5 (by omega)
  have hvl := vbulks_len l
  refine ⟨.mk n0 n1 s2.data.toList l, ⟨n0, n1, s2.data.toList, s⟩, ?_, VIs_iff.2 ⟨rfl, rfl, rfl, r1⟩, ⟨?_, ?_, by omega, by omega, r2⟩, ?_⟩
  · injection k0 with k0
    injection l0 with l0
    injection m0 with m0
    injection p0 with p0
    subst k0; subst l0; subst m0; subst p0
    simp [T_api_Value.c, sv]
  · simpa [Lit.wf, IntKind.min, IntKind.max, IntKind.signed, IntKind.bits] using k2
  · simpa [Lit.wf, IntKind.min, IntKind.max, IntKind.signed, IntKind.bits] using l2
  · rw [vbulk_eq]
    simp only [V.l, V.s]
    omega

/-- a value that is an argument -/
theorem arg_val {t tl : TypeId} (hT : ValT P t tl) {base : Nat} {v : Value} {d : DataW H} {p : List MemPlace} (hv : Value.okWide P W .any base t v) (h : DataW.Trod enc P W 0 (fun _ => true) true t v d p) (hs : sizeD d ≤ 1048576) :
    ∃ (u : V) (y : TV), v = .agg (T_api_Value.c y).toArray ∧ VIs (heapOf W) u y ∧ VB u ∧ vbulk u ≤ 1048576 := by
  obtain ⟨fs, hu, _⟩ := hT.st
  obtain ⟨cs, rfl, hl⟩ := WideShapes.okWide_struct hu hv
  obtain ⟨n, hn⟩ := h
  obtain ⟨u, y, h1, h2, h3, h4⟩ := val_of hT n hn (by dsimp only; omega)
  refine ⟨u, y, ?_, h2, h3, by dsimp only at h4; omega⟩
  simp only [Value.cells] at h1
  rw [← h1]
/-- a row of values that is an argument -/
theorem arg_vals {t tl : TypeId} (hT : ValT P t tl) {base : Nat} {v : Value} {d : DataW H} {p : List MemPlace} (hv : Value.okWide P W .any base tl v) (h : DataW.Trod enc P W 0 (fun _ => true) true tl v d p) (hs : sizeD d ≤ 1048576) :
    ∃ (s : Sl) (l : List V), v = slv s ∧ VRow (heapOf W) s l ∧ VBs l ∧ vbulks l ≤ 1048576 := by
  obtain ⟨a, len, c, rfl⟩ := WideShapes.okWide_slice hT.sl hv
  obtain ⟨n, hn⟩ := h
  obtain ⟨s, css, ys, m', hm', p0, p1, p2, p3, p4, p5, p6⟩ := trod_cells hT.sl (by rw [hT.cells]; omega) hn
  dsimp only at p5
  obtain ⟨l, r1, r2, r3⟩ := rows_gen (H := H) hT p2 p3 p4 (m := m') fun i c y hc hy => by
    obtain ⟨_, h5⟩ := p6 i c y hc hy
    have h6 := sizeDs_mem (List.mem_map_of_mem (f := (·.1)) (List.mem_of_getElem? hy))
    exact val_of hT m' h5 (by omega)
  refine ⟨s, l, ?_, r1, r2, by omega⟩
  simpa [Value.cells] using p0
end
end Sx
