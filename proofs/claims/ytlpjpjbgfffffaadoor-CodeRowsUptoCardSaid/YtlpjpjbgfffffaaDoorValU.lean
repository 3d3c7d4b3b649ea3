/-
  Values in memory.
-/
import Derived.Test.YtlpjpjbgfffffaaDoorValQ
import Derived.Test.YtlpjpjbgfffffaaDoorSh
set_option linter.unusedVariables false
set_option linter.unusedSimpArgs false
set_option maxRecDepth 10000
namespace Sx
open Go Go.Proofs

theorem flat_get {α β : Type} (f : α → List β) (z : Nat) (hz : ∀ x, (f x).length = z) : ∀ (l : List α) (i : Nat) (x : α), l[i]? = some x → ∀ (j : Nat) (v : β), (f x)[j]? = some v → (l.flatMap f)[i * z + j]? = some v
  | [], i, x, h, j, v, hv => by simp at h
  | y :: l, 0, x, h, j, v, hv => by
    simp at h; subst h
    rw [List.flatMap_cons, Nat.zero_mul, Nat.zero_add, List.getElem?_append_left (List.getElem?_eq_some_iff.1 hv).1]; exact hv
  | y :: l, i + 1, x, h, j, v, hv => by
    have := flat_get f z hz l i x (by simpa using h) j v hv
    rw [List.flatMap_cons, List.getElem?_append_right (by rw [hz, Nat.add_mul]; omega), hz]
    rw [show (i + 1) * z + j - z = i * z + j by rw [Nat.add_mul]; omega]; exact this

abbrev TV := T_api_Value
theorem TV.c_len (x : TV) : (T_api_Value.c x).length = 4 := rfl

mutual
def VIs (H : Heap) : V → TV → Prop
  | .mk k n s l, x => x.Kind = k ∧ x.N = n ∧ x.S = s ∧ ∃ xs : List TV, rdsl H x.L (xs.flatMap T_api_Value.c) ∧ x.L.len = xs.length ∧ VsAre H l xs
def VsAre (H : Heap) : List V → List TV → Prop
  | [], [] => True
  | v :: l, x :: xs => VIs H v x ∧ VsAre H l xs
  | [], _ :: _ => False
  | _ :: _, [] => False
end
/-- a row of values -/
def VRow (H : Heap) (t : Sl) (l : List V) : Prop := ∃ xs : List TV, rdsl H t (xs.flatMap T_api_Value.c) ∧ t.len = xs.length ∧ VsAre H l xs
theorem VIs_iff {H : Heap} {v : V} {x : TV} : VIs H v x ↔ x.Kind = v.k ∧ x.N = v.n ∧ x.S = v.s ∧ VRow H x.L v.l := by obtain ⟨k, n, s, l⟩ := v; rfl
theorem VsAre.len {H : Heap} : ∀ {l : List V} {xs : List TV}, VsAre H l xs → l.length = xs.length
  | [], [], _ => rfl
  | v :: l, x :: xs, h => by have := VsAre.len h.2; simp [this]
theorem VsAre.get {H : Heap} : ∀ {l : List V} {xs : List TV}, VsAre H l xs → ∀ (i : Nat) (v : V) (x : TV), l[i]? = some v → xs[i]? = some x → VIs H v x
  | [], [], _, i, v, x, h, _ => by simp at h
  | v :: l, x :: xs, h, 0, v', x', h1, h2 => by simp at h1 h2; subst h1; subst h2; exact h.1
  | v :: l, x :: xs, h, i + 1, v', x', h1, h2 => VsAre.get h.2 i v' x' (by simpa using h1) (by simpa using h2)
theorem VsAre.of {H : Heap} : ∀ {l : List V} {xs : List TV}, l.length = xs.length → (∀ (i : Nat) (v : V) (x : TV), l[i]? = some v → xs[i]? = some x → VIs H v x) → VsAre H l xs
  | [], [], _, _ => trivial
  | v :: l, x :: xs, h, hg => ⟨hg 0 v x rfl rfl, VsAre.of (by simpa using h) fun i v' x' h1 h2 => hg (i + 1) v' x' (by simpa using h1) (by simpa using h2)⟩
mutual
theorem VIs.le {A B : Heap} (h : A.le B) : ∀ {v : V} {x : TV}, VIs A v x → VIs B v x
  | .mk k n s l, x, ⟨h1, h2, h3, xs, h4, h5, h6⟩ => ⟨h1, h2, h3, xs, rdsl_le h h4, h5, VsAre.le h h6⟩
theorem VsAre.le {A B : Heap} (h : A.le B) : ∀ {l : List V} {xs : List TV}, VsAre A l xs → VsAre B l xs
  | [], [], _ => trivial
  | v :: l, x :: xs, ⟨h1, h2⟩ => ⟨VIs.le h h1, VsAre.le h h2⟩
end
theorem VRow.le {A B : Heap} {t : Sl} {l : List V} (h : VRow A t l) (hle : A.le B) : VRow B t l := by
  obtain ⟨xs, h1, h2, h3⟩ := h
  exact ⟨xs, rdsl_le hle h1, h2, h3.le hle⟩
theorem VRow.len {H : Heap} {t : Sl} {l : List V} (h : VRow H t l) : t.len = l.length := by
  obtain ⟨xs, h1, h2, h3⟩ := h
  rw [h2, h3.len]
theorem VIs.kind {H : Heap} {v : V} {x : TV} (h : VIs H v x) : x.Kind = v.k := (VIs_iff.1 h).1
theorem VIs.num {H : Heap} {v : V} {x : TV} (h : VIs H v x) : x.N = v.n := (VIs_iff.1 h).2.1
theorem VIs.txt {H : Heap} {v : V} {x : TV} (h : VIs H v x) : x.S = v.s := (VIs_iff.1 h).2.2.1
theorem VIs.row {H : Heap} {v : V} {x : TV} (h : VIs H v x) : VRow H x.L v.l := (VIs_iff.1 h).2.2.2

/-- one of a row's values -/
theorem VRow.ld {A H : Heap} {t : Sl} {l : List V} (h : VRow A t l) (hle : A.le H) {i : Nat} {x : Int} {K : TV → Prop} (hx : x = i) (hi : i < l.length) (k : ∀ y, VIs A l[i] y → K y) : ixa t x fun p => ldT H T_api_Value.c (p.1, p.2 + x.toNat * 4) K := by
  have hl := h.len
  obtain ⟨xs, h1, h2, h3⟩ := h
  have hi2 : i < xs.length := by omega
  have hg := List.getElem?_eq_getElem hi2
  subst hx
  refine ixa_of (rdsl_le hle h1) (by omega) (by omega) (fun e => ?_) fun p _ hp => ⟨xs[i], ?_, k _ (h3.get i _ _ (List.getElem?_eq_getElem hi) hg)⟩
  · have := flat_get T_api_Value.c 4 TV.c_len xs i _ hg 0 _ rfl
    rw [e] at this; simp at this
  · refine rds_of fun j v hj => ?_
    have := rds_get hp _ _ (flat_get T_api_Value.c 4 TV.c_len xs i _ hg j v hj)
    rw [show p.2 + (i : Int).toNat * 4 + j = p.2 + (i * 4 + j) by omega]; exact this

/-! how great -/
mutual
def VB : V → Prop
  | .mk k n s l => (0 ≤ k ∧ k ≤ 255) ∧ (-9223372036854775808 ≤ n ∧ n ≤ 9223372036854775807) ∧ s.length ≤ 140737488355328 ∧ l.length ≤ 140737488355328 ∧ VBs l
def VBs : List V → Prop
  | [] => True
  | v :: l => VB v ∧ VBs l
end
theorem VBs.mem : ∀ {l : List V}, VBs l → ∀ {v}, v ∈ l → VB v
  | w :: l, h, v, hv => by
    rcases List.mem_cons.1 hv with rfl | hv
    · exact h.1
    · exact VBs.mem h.2 hv
theorem VBs.of : ∀ {l : List V}, (∀ v ∈ l, VB v) → VBs l
  | [], _ => trivial
  | v :: l, h => ⟨h v (List.mem_cons_self ..), VBs.of fun w hw => h w (List.mem_cons_of_mem _ hw)⟩
theorem VB.k {v : V} (h : VB v) : 0 ≤ v.k ∧ v.k ≤ 255 := by obtain ⟨k, n, s, l⟩ := v; exact h.1
theorem VB.n {v : V} (h : VB v) : -9223372036854775808 ≤ v.n ∧ v.n ≤ 9223372036854775807 := by obtain ⟨k, n, s, l⟩ := v; exact h.2.1
theorem VB.s {v : V} (h : VB v) : v.s.length ≤ 140737488355328 := by obtain ⟨k, n, s, l⟩ := v; exact h.2.2.1
theorem VB.l {v : V} (h : VB v) : v.l.length ≤ 140737488355328 := by obtain ⟨k, n, s, l⟩ := v; exact h.2.2.2.1
theorem VB.ls {v : V} (h : VB v) : VBs v.l := by obtain ⟨k, n, s, l⟩ := v; exact h.2.2.2.2
theorem VB.at {v : V} (h : VB v) {i : Nat} (hi : i < v.l.length) : VB v.l[i] := h.ls.mem (List.getElem_mem hi)

/-! a value in a block of its own -/
section
variable {B : Heap} {b : Nat} {m : Bool} {x : TV}
theorem rd_box (h : B b = some (m, .row (T_api_Value.c x))) : rd B (b, 0) = some (.int .u8 x.Kind) ∧ rd B (b, 1) = some (.int .i64 x.N) ∧ rd B (b, 2) = some (sv x.S) ∧ rd B (b, 3) = some (slv x.L) :=
  ⟨by rw [rd_row h]; rfl, by rw [rd_row h]; rfl, by rw [rd_row h]; rfl, by rw [rd_row h]; rfl⟩
theorem bxK {K : Int → Prop} (h : B b = some (m, .row (T_api_Value.c x))) (k : K x.Kind) : ldI B .u8 ((b, 0).1, (b, 0).2 + 0) K := ⟨_, (rd_box h).1, k⟩
theorem bxN {K : Int → Prop} (h : B b = some (m, .row (T_api_Value.c x))) (k : K x.N) : ldI B .i64 ((b, 0).1, (b, 0).2 + 1) K := ⟨_, (rd_box h).2.1, k⟩
theorem bxS {K : Str → Prop} (h : B b = some (m, .row (T_api_Value.c x))) (k : K x.S) : ldS B ((b, 0).1, (b, 0).2 + 2) K := ⟨_, (rd_box h).2.2.1, k⟩
theorem bxL {K : Sl → Prop} (h : B b = some (m, .row (T_api_Value.c x))) (k : K x.L) : ldL B ((b, 0).1, (b, 0).2 + 3) K := ⟨_, (rd_box h).2.2.2, k⟩
theorem bxV {K : TV → Prop} (h : B b = some (m, .row (T_api_Value.c x))) (k : K x) : ldT B T_api_Value.c (b, 0) K := ⟨x, rds_row h fun j v hj => by simpa using hj, k⟩
end

/-! how deep -/
section
variable {C : Ctx} {H : Heap}
theorem w64 {x : Int} (h0 : -9223372036854775808 ≤ x) (h1 : x ≤ 9223372036854775807) : w .i64 x = x := w_i64 h0 h1

theorem ref02_Depth_ok {v : V} {x : TV} {H : Heap} {K : Int → Heap → Prop} (hv : VIs H v x) (hB : VB v) (hs : vsize v ≤ 4611686018427387904) (k : K (dep v) H) : c_ref02_Depth C x K H := by
  refine V.rec_ (P := fun v => ∀ {x H} {K : Int → Heap → Prop}, VIs H v x → VB v → vsize v ≤ 4611686018427387904 → K (dep v) H → c_ref02_Depth C x K H) (fun v ih => ?_) v hv hB hs k
  clear hv hB hs k
  intro x H K hv hB hs k
  apply c_ref02_Depth.gh
  apply ad_ref02_Depth
  unfold sh_ref02_Depth
  intro b1 n1
  have hr := hv.row
  have hl := hr.len
  have hbl := hB.l
  have hds := dep_le_size v
  have hde := dep_eq v
  refine ⟨fun y H' => ∃ i : Nat, y = ((deps (v.l.take i) : Int), (i : Int)) ∧ i ≤ v.l.length ∧ (H.put b1 (.row (T_api_Value.c x))).le H', fun y _ => v.l.length - y.2.toNat, ⟨0, by simp [deps], Nat.zero_le _, Heap.le.refl _⟩, ?_⟩
  rintro _ H' ⟨i, rfl, hi, hle⟩
  have hb := hle _ _ (Heap.put_same ..)
  have hle0 := (Heap.le_put n1).trans hle
  refine bxL hb ?_
  rw [hl]
  refine ift.of (fun h => ?_) (fun h => ?_)
  · have hlt : i < v.l.length := by have := of_decide_eq_true h; dsimp only at this; omega
    have hmem := List.getElem_mem hlt
    have hsz := vsize_l hmem
    have hdl := deps_le hmem
    refine bxL hb ?_
    refine hr.ld hle0 rfl hlt fun y hy => ?_
    refine ih _ hmem (hy.le hle0) (hB.at hlt) (by omega) ?_
    have hdt := deps_take hlt
    dsimp only
    rw [w_i64 (by omega) (by omega)]
    refine ⟨⟨i + 1, ?_, by omega, hle⟩, by first | omega | (dsimp only; omega)⟩
    rw [hdt]
    refine Prod.ext ?_ rfl
    dsimp only
    split <;> omega
  · have hie : i = v.l.length := by have := of_decide_eq_false h; dsimp only at this; omega
    subst hie
    dsimp only
    rw [List.take_length, w_i64 (by omega) (by omega)]
    refine ⟨H, Gh.le hle0, ?_⟩
    rw [hde] at k; exact k

theorem value_depth_ok {v : V} {x : TV} {H : Heap} {m : Nat} {K : Int → Heap → Prop} (hv : VIs H v x) (hB : VB v) (hm : m ≤ 1000) (k : ∀ r : Nat, r ≤ m + 1 → r ≤ dep v → (r = dep v ∨ m + 1 ≤ r) → K r H) : c_value_depth C x m K H := by
  refine V.rec_ (P := fun v => ∀ {x H} {m : Nat} {K : Int → Heap → Prop}, VIs H v x → VB v → m ≤ 1000 → (∀ r : Nat, r ≤ m + 1 → r ≤ dep v → (r = dep v ∨ m + 1 ≤ r) → K r H) → c_value_depth C x m K H) (fun v ih => ?_) v hv hB hm k
  clear hv hB hm k m
  intro x H m K hv hB hm k
  apply c_value_depth.gh
  apply ad_value_depth
  unfold sh_value_depth
  intro b1 n1
  have hr := hv.row
  have hl := hr.len
  have hbl := hB.l
  have hde := dep_eq v
  have hb1 : (H.put b1 (.row (T_api_Value.c x))) b1 = some (true, .row (T_api_Value.c x)) := Heap.put_same ..
  refine ⟨fun y H' => H.le H' ∧ ∃ r : Nat, y = (r : Int) ∧ r ≤ m ∧ r ≤ deps v.l ∧ (r = deps v.l ∨ m ≤ r), ?_, ?_⟩
  rotate_left
  · rintro y H' ⟨hle, r, rfl, h0, h1, h2⟩
    rw [w_i64 (by omega) (by omega)]
    have := k (r + 1) (by omega) (by omega) (by omega)
    exact ⟨H, Gh.le hle, by simpa using this⟩
  refine bxL hb1 ?_
  refine ⟨fun y H' => ∃ i r : Nat, y = ((r : Int), (i : Int)) ∧ i ≤ v.l.length ∧ H.le H' ∧ r ≤ m ∧ r ≤ deps (v.l.take i) ∧ (r = deps (v.l.take i) ∨ m ≤ r), fun y _ => v.l.length - y.2.toNat, ⟨0, 0, rfl, Nat.zero_le _, Heap.le_put n1, Nat.zero_le _, Nat.zero_le _, .inl (by simp [deps])⟩, ?_⟩
  rintro _ H' ⟨i, r, rfl, hi, hle, hr0, hr1, hr2⟩
  have hdti : deps (v.l.take i) ≤ deps v.l := by
    have h1 := deps_append (v.l.take i) (v.l.drop i)
    rw [List.take_append_drop] at h1; omega
  dsimp only
  rw [hl]
  refine ift.of (fun h => ?_) (fun h => ?_)
  · have hlt : i < v.l.length := by have := of_decide_eq_true h; omega
    have hmem := List.getElem_mem hlt
    have hdl := deps_le hmem
    refine hr.ld hle rfl hlt fun y hy => ?_
    intro b20 n20
    refine ⟨_, Heap.put_same .., by simp [T_api_Value.c], ?_⟩
    rw [Heap.put_put]
    have esp : splice (T_api_Value.c T_api_Value.zero) (b20, 0).2 (T_api_Value.c y) = T_api_Value.c y := rfl
    rw [esp]
    have hle2 := hle.trans (Heap.le_put n20 (g := .row (T_api_Value.c y)) (m := true))
    refine ift.of (fun h => ?_) (fun h => ?_)
    · have hge : m ≤ r := by have := of_decide_eq_true h; omega
      exact ⟨hle2, r, rfl, by omega, by omega, .inr hge⟩
    · have hltm : r < m := by have := of_decide_eq_false h; omega
      refine bxV (Heap.put_same ..) ?_
      have em : w .i64 ((m : Int) - 1) = ((m - 1 : Nat) : Int) := by rw [w_i64 (by omega) (by omega)]; omega
      rw [em]
      refine ih _ hmem (hy.le hle2) (hB.at hlt) (by omega) fun q hq0 hq1 hq2 => ?_
      have hdt := deps_take hlt
      rw [w_i64 (by omega) (by omega)]
      refine ⟨⟨i + 1, max q r, ?_, by omega, hle2, by omega, by omega, ?_⟩, by first | omega | (dsimp only; omega)⟩
      · refine Prod.ext ?_ rfl
        dsimp only
        split <;> omega
      · rw [hdt]; omega
  · have hie : i = v.l.length := by have := of_decide_eq_false h; omega
    subst hie
    rw [List.take_length] at hr1 hr2
    exact ⟨hle, r, rfl, hr0, hr1, hr2⟩
end
end Sx
