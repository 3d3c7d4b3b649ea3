/-
  How many parts a value has; the laws of the order of bytes.
-/
import Derived.Test.YtlpjpjbgfffffaaDoorCodeV4
set_option linter.unusedVariables false
set_option linter.unusedSimpArgs false
set_option maxRecDepth 10000
namespace Sx
open Go Go.Proofs

mutual
def pt : V → Nat
  | .mk k n s l => pts l + (s.length / 64 + 1)
def pts : List V → Nat
  | [] => 0
  | v :: l => pt v + pts l
end
theorem pt_eq (v : V) : pt v = pts v.l + (v.s.length / 64 + 1) := by obtain ⟨k, n, s, l⟩ := v; rfl
theorem pts_append : ∀ a b : List V, pts (a ++ b) = pts a + pts b
  | [], b => by simp [pts]
  | v :: a, b => by simp only [List.cons_append, pts, pts_append a b]; omega
theorem pts_take {l : List V} {i : Nat} (h : i < l.length) : pts (l.take (i + 1)) = pts (l.take i) + pt l[i] := by
  rw [List.take_add_one, List.getElem?_eq_getElem h, Option.toList_some, pts_append]; simp [pts]
theorem vtot_pt (v : V) : vtot v ≤ 139 * pt v := by
  have h : ∀ (l : List V), (∀ w ∈ l, vtot w ≤ 139 * pt w) → vtots l ≤ 139 * pts l := by
    intro l
    induction l with
    | nil => intro _; simp [vtots]
    | cons v l ih =>
      intro h
      have h1 := h v (List.mem_cons_self ..)
      have h2 := ih fun w hw => h w (List.mem_cons_of_mem _ hw)
      simp only [vtots, pts]; omega
  refine V.rec_ (P := fun v => vtot v ≤ 139 * pt v) (fun v ih => ?_) v
  obtain ⟨k, n, s, l⟩ := v
  have := h l ih
  simp only [vtot, pt]; omega
theorem vsize_tot (v : V) : vsize v ≤ vtot v := by
  have h : ∀ (l : List V), (∀ w ∈ l, vsize w ≤ vtot w) → vsizes l ≤ vtots l := by
    intro l
    induction l with
    | nil => intro _; simp [vsizes]
    | cons v l ih =>
      intro h
      have h1 := h v (List.mem_cons_self ..)
      have h2 := ih fun w hw => h w (List.mem_cons_of_mem _ hw)
      simp only [vsizes, vtots]; omega
  refine V.rec_ (P := fun v => vsize v ≤ vtot v) (fun v ih => ?_) v
  obtain ⟨k, n, s, l⟩ := v
  have := h l ih
  simp only [vsize, vtot]; omega
theorem cmpV_val (v w : V) (hB : VB v) (hB2 : VB w) (hF : formV v = true) (hF2 : formV w = true) (hs : vtot v < 2147483648) (hs2 : vtot w < 2147483648) : cmpS (encV v) (encV w) = cmpV v w ∧ (cmpV v w ≠ 0 → ∀ x y, cmpS (encV v ++ x) (encV w ++ y) = cmpV v w) ∧ (cmpV v w = -1 ∨ cmpV v w = 1 ∨ cmpV v w = 0) := by
  have h := ord_V v w hB hB2 hF hF2 hs hs2
  obtain ⟨h1, h2⟩ := h.cmp fun e => by rw [e]
  refine ⟨h1, h2, ?_⟩
  rcases h with h | h | h
  · exact .inl h.1
  · exact .inr (.inl h.1)
  · exact .inr (.inr h.1)

section
variable {C : Ctx} {H : Heap}

theorem parts_fine {v : V} {x : TV} {H : Heap} {K : Int → Heap → Prop} (hv : VIs H v x) (hB : VB v) (hd : dep v ≤ 100) (k : ∀ r : Nat, r ≤ 3000000000000 + 3000 * dep v → 1 ≤ r → (r = pt v ∨ 3000 ≤ r) → K r H) : c_law03_parts C x K H := by
  refine V.rec_ (P := fun v => ∀ {x H} {K : Int → Heap → Prop}, VIs H v x → VB v → dep v ≤ 100 → (∀ r : Nat, r ≤ 3000000000000 + 3000 * dep v → 1 ≤ r → (r = pt v ∨ 3000 ≤ r) → K r H) → c_law03_parts C x K H) (fun v ih => ?_) v hv hB hd k
  clear hv hB hd k
  intro x H K hv hB hd k
  apply c_law03_parts.gh
  apply ad_law03_parts
  unfold sh_law03_parts
  intro b1 n1
  have hb1 : (H.put b1 (.row (T_api_Value.c x))) b1 = some (true, .row (T_api_Value.c x)) := Heap.put_same ..
  have hle1 := Heap.le_put n1 (g := .row (T_api_Value.c x)) (m := true)
  have hr := hv.row
  have hl := hr.len
  have hbl := hB.l
  have hbs := hB.s
  have hde := dep_eq v
  generalize H.put b1 (.row (T_api_Value.c x)) = H1 at *
  refine bxS hb1 ?_
  rw [hv.txt]
  have e0 : Int.tdiv (v.s.length : Int) 64 = ((v.s.length / 64 : Nat) : Int) := by rw [Int.tdiv_eq_ediv_of_nonneg (by omega)]; omega
  rw [e0, w_i64 (x := ((v.s.length / 64 : Nat) : Int)) (by omega) (by omega), w_i64 (by omega) (by omega)]
  refine ⟨fun y H' => ∃ i n : Nat, y = ((n : Int), (i : Int)) ∧ i ≤ v.l.length ∧ H1 = H' ∧ 1 ≤ n ∧ n ≤ 3000000000000 + 3000 * dep v ∧ (n = pts (v.l.take i) + (v.s.length / 64 + 1) ∨ 3000 ≤ n), fun y _ => v.l.length - y.2.toNat, ⟨0, v.s.length / 64 + 1, by refine Prod.ext ?_ rfl; dsimp only; omega, Nat.zero_le _, rfl, by omega, by omega, .inl (by simp [pts])⟩, ?_⟩
  rintro _ _ ⟨i, n, rfl, hi, rfl, h1, h2, h3⟩
  refine bxL hb1 ?_
  rw [hl]
  dsimp only
  refine ift.of (fun h => ?_) (fun h => ?_)
  · simp only [Bool.and_eq_true, decide_eq_true_eq] at h
    have hlt : i < v.l.length := by omega
    have hmem := List.getElem_mem hlt
    have hdl := deps_le hmem
    refine bxL hb1 ?_
    refine hr.ld hle1 rfl hlt fun z hz => ?_
    refine ih _ hmem (hz.le hle1) (hB.at hlt) (by omega) fun r g1 g2 g3 => ?_
    have hpt := pts_take hlt
    rw [w_i64 (x := (i : Int) + 1) (by omega) (by omega), w_i64 (by omega) (by omega)]
    refine ⟨⟨i + 1, n + r, by refine Prod.ext ?_ rfl; dsimp only; omega, by omega, rfl, by omega, by omega, ?_⟩, by first | omega | (dsimp only; omega)⟩
    rw [hpt]; omega
  · simp only [Bool.and_eq_false_iff, decide_eq_false_iff_not] at h
    refine ⟨H, Gh.le hle1, k n h2 h1 ?_⟩
    rw [pt_eq]
    by_cases hie : i = v.l.length
    · subst hie
      rw [List.take_length] at h3; exact h3
    · exact .inr (by omega)

theorem wide_fine {v : V} {x : TV} {H : Heap} {K : Bool → Heap → Prop} (hv : VIs H v x) (hB : VB v) (k : ∀ b, (b = false → dep v ≤ 100 → vtot v ≤ 278000) → K b H) : c_law03_wide C x K H := by
  by_cases hd : dep v ≤ 100
  · apply c_law03_wide.gh
    apply ad_law03_wide
    unfold sh_law03_wide
    intro b1 n1
    have hle1 := Heap.le_put n1 (g := .row (T_api_Value.c x)) (m := true)
    refine bxV (Heap.put_same ..) (parts_fine (hv.le hle1) hB hd fun r h1 h2 h3 => ⟨H, Gh.le hle1, k _ fun hb _ => ?_⟩)
    have := of_decide_eq_false hb
    have := vtot_pt v
    omega
  · exact wide_ok hv hB fun b => k b fun _ h => absurd h hd
theorem may_dep {v : V} (h : mayV v = true) : dep v ≤ 64 := ((mayV_iff v).1 h).1

theorem CodeOrder_ok {v w : V} {x y : TV} {p q : Sl} {c d : Str} {H : Heap} {K : Bool → Heap → Prop} (hv : VIs H v x) (hw : VIs H w y) (hB : VB v) (hB2 : VB w) (hp : rdsl H p (bytesV c)) (hpl : p.len = c.length) (hq : rdsl H q (bytesV d)) (hql : q.len = d.length) (k : ∀ H2, K true H2) : c_law03_CodeOrder C x y p q K H := by
  apply ad_law03_CodeOrder
  unfold sh_law03_CodeOrder
  intro b1 n1 b3 n3
  have hb3 : ((H.put b1 (.row (T_api_Value.c x))).put b3 (.row (T_api_Value.c y))) b3 = some (true, .row (T_api_Value.c y)) := Heap.put_same ..
  have hne : b1 ≠ b3 := fun e => by rw [e, Heap.put_same] at n3; cases n3
  have hb1 : ((H.put b1 (.row (T_api_Value.c x))).put b3 (.row (T_api_Value.c y))) b1 = some (true, .row (T_api_Value.c x)) := by rw [Heap.put_ne _ _ _ hne, Heap.put_same]
  have hle := (Heap.le_put n1 (g := .row (T_api_Value.c x)) (m := true)).trans (Heap.le_put n3 (g := .row (T_api_Value.c y)) (m := true))
  generalize (H.put b1 (.row (T_api_Value.c x))).put b3 (.row (T_api_Value.c y)) = H1 at *
  have hv1 := hv.le hle
  have hw1 := hw.le hle
  have hp1 := rdsl_le hle hp
  have hq1 := rdsl_le hle hq
  refine bxV hb1 (wide_fine hv1 hB fun bv hbv => ?_)
  refine ⟨fun b H' => H1 = H' ∧ (b = false → (dep v ≤ 100 → vtot v ≤ 278000) ∧ (dep w ≤ 100 → vtot w ≤ 278000)), ?_, ?_⟩
  · refine ift.of (fun h => ⟨rfl, fun h => by cases h⟩) (fun h => ?_)
    exact bxV hb3 (wide_fine hw1 hB2 fun bw hbw => ⟨rfl, fun hb => ⟨hbv h, hbw hb⟩⟩)
  rintro b9 _ ⟨rfl, h9⟩
  refine ⟨fun b H' => H1.le H' ∧ (b = false → ((dep v ≤ 100 → vtot v ≤ 278000) ∧ (dep w ≤ 100 → vtot w ≤ 278000)) ∧ c.length ≤ 3000 ∧ d.length ≤ 3000), ?_, ?_⟩
  · refine ift.of (fun h => ⟨Heap.le.refl _, fun h => by cases h⟩) (fun h => ?_)
    simp only [Bool.or_eq_false_iff, decide_eq_false_iff_not] at h
    exact works_ok fun H2 hle2 => ⟨hle2, fun _ => ⟨h9 h.1.1, by omega, by omega⟩⟩
  rintro b20 H2 ⟨hle2, h20⟩
  refine ift.of (fun h => works_ok fun H3 _ => k H3) (fun h => ?_)
  obtain ⟨⟨t1, t2⟩, hc, hd⟩ := h20 h
  have hb1 := hle2 _ _ hb1
  have hb3 := hle2 _ _ hb3
  have hv2 := hv1.le hle2
  have hw2 := hw1.le hle2
  have hp2 := rdsl_le hle2 hp1
  have hq2 := rdsl_le hle2 hq1
  have tv : mayV v = true → vtot v ≤ 278000 := fun h => t1 (by have := may_dep h; omega)
  have tw : mayV w = true → vtot w ≤ 278000 := fun h => t2 (by have := may_dep h; omega)
  clear hv hw hp hq hv1 hw1 hp1 hq1 hle hle2 h20 h9 hbv
  refine ⟨H2, Heap.le.refl _, bxV hb1 (bxV hb3 ?_)⟩
  refine code_Value_ok (a := []) rdsl_none rfl hv2 hB (fun h => by have := tv h; omega) (by simp) fun r1 H3 h3 => ?_
  refine ⟨h3.le, ?_⟩
  refine code_Value_ok (a := []) rdsl_none rfl (hw2.le h3.le) hB2 (fun h => by have := tw h; omega) (by simp) fun r2 H4 h4 => ?_
  have hle4 := h3.le.trans h4.le
  refine ⟨hle4, ?_⟩
  rw [List.nil_append] at h3 h4
  have l3 := h3.lenB
  have l4 := h4.lenB
  refine ift.of (fun h => k _) (fun h => ?_)
  simp only [Bool.or_eq_false_iff, beq_eq_false_iff_ne, ne_eq] at h
  have hmv : mayV v = true := by
    cases hh : mayV v with
    | true => rfl
    | false => rw [hh] at l3; simp at l3; omega
  have hmw : mayV w = true := by
    cases hh : mayV w with
    | true => rfl
    | false => rw [hh] at l4; simp at l4; omega
  rw [if_pos hmv] at h3 l3
  rw [if_pos hmw] at h4 l4
  have sv1 := tv hmv
  have sw1 := tw hmw
  have zv := vsize_tot v
  have zw := vsize_tot w
  have ev := encV_len v hB (by omega)
  have ew := encV_len w hB2 (by omega)
  obtain ⟨c1, c2, c3⟩ := cmpV_val v w hB hB2 (mayV_form hmv) (mayV_form hmw) (by omega) (by omega)
  refine bxV (hle4 _ _ hb1) (bxV (hle4 _ _ hb3) ?_)
  refine ref02_Cmp_ok (hv2.le hle4) (hw2.le hle4) hB hB2 (by omega) (by omega) ?_
  have ea : cmpA v w = cmpV v w := by unfold cmpA; rw [if_pos ⟨hmv, hmw⟩]
  rw [ea]
  have h3r := rdsl_le h4.le h3.own.rdsl
  refine stands_ok h3r l3 h4.own.rdsl l4 fun r g1 g2 g3 g4 => ?_
  rw [c1] at g1 g2
  have hr : r = cmpV v w := by omega
  refine ⟨fun b H' => b = true, ift_pos (by rw [hr]; simp) ?_, ?_⟩
  rotate_left
  · rintro _ H' rfl
    exact k _
  refine ⟨fun b H' => b = true, ?_, ?_⟩
  rotate_left
  · rintro _ H' rfl
    rfl
  refine ift.of (fun h => rfl) (fun h => ?_)
  have hne0 : cmpV v w ≠ 0 := by simpa using h
  have hle40 := h3.le.trans h4.le
  refine law_behind_ok h3r l3 (rdsl_le hle4 hp2) hpl (by omega) fun r5 H5 h5 => ?_
  refine law_behind_ok (rdsl_le h5.le h4.own.rdsl) l4 (rdsl_le (hle4.trans h5.le) hq2) hql (by omega) fun r6 H6 h6 => ?_
  refine stands_ok (rdsl_le h6.le h5.own.rdsl) h5.lenB h6.own.rdsl h6.lenB fun r7 g1 g2 g3 g4 => ?_
  rw [c2 hne0] at g1 g2
  have hr : r7 = cmpV v w := by omega
  rw [hr]; simp
end
end Sx
