/-
  Which values may be.
-/
import Derived.Test.YtlpjpjbgfffffaaDoorValP2
set_option linter.unusedVariables false
set_option linter.unusedSimpArgs false
set_option maxRecDepth 10000
namespace Sx
open Go Go.Proofs

section
variable {C : Ctx} {H : Heap}

theorem sEmpty {s : Str} : (s == ([] : Str)) = s.isEmpty := by cases s <;> rfl
theorem lenZ {l : List V} {n : Nat} (h : n = l.length) (m : Nat) : ((n : Int) == (m : Int)) = decide (l.length = m) := by
  rw [Bool.eq_iff_iff]; simp only [beq_iff_eq, decide_eq_true_eq]; omega

/-- and: the second is asked for if the first is so -/
theorem jand {H0 : Heap} {K : Bool → Heap → Prop} {a b : Bool} {P Q : (Bool → Heap → Prop) → Prop} (hp : ∀ J, (a = true → J b H0) → (a = false → J false H0) → P J) (k : K (a && b) H0) : jn (fun b' H' => K b' H') P :=
  ⟨fun b' H' => H' = H0 ∧ b' = (a && b), hp _ (fun h => ⟨rfl, by rw [h]; rfl⟩) (fun h => ⟨rfl, by rw [h]; rfl⟩), fun _ _ ⟨h1, h2⟩ => by rw [h1, h2]; exact k⟩

theorem ref02_form_ok {v : V} {x : TV} {H : Heap} {K : Bool → Heap → Prop} (hv : VIs H v x) (hB : VB v) (k : K (formV v) H) : c_ref02_form C x K H := by
  refine V.rec_ (P := fun v => ∀ {x H} {K : Bool → Heap → Prop}, VIs H v x → VB v → K (formV v) H → c_ref02_form C x K H) (fun v ih => ?_) v hv hB k
  clear hv hB k
  intro x H K hv hB k
  apply c_ref02_form.gh
  apply ad_ref02_form
  unfold sh_ref02_form
  intro b1 n1
  have hr := hv.row
  have hl := hr.len
  have hbl := hB.l
  have hbs := hB.s
  have hk := hv.kind
  have hn := hv.num
  have ht := hv.txt
  have hb1 : (H.put b1 (.row (T_api_Value.c x))) b1 = some (true, .row (T_api_Value.c x)) := Heap.put_same ..
  have hle1 := Heap.le_put n1 (g := .row (T_api_Value.c x)) (m := true)
  generalize H.put b1 (.row (T_api_Value.c x)) = H1 at *
  refine ⟨fun b H' => H1 = H' ∧ b = okN v.k v.n v.s v.l.length, ?_, ?_⟩
  rotate_left
  · rintro b _ ⟨rfl, rfl⟩
    refine ⟨fun y H' => ∃ i : Nat, y.2 = (i : Int) ∧ i ≤ v.l.length ∧ H1 = H' ∧ (y.1 = true → okN v.k v.n v.s v.l.length = true ∧ formVs (v.l.take i) = true) ∧ (y.1 = false → formV v = false), fun y _ => v.l.length - y.2.toNat, ⟨0, rfl, Nat.zero_le _, rfl, fun h => ⟨h, rfl⟩, fun h => by dsimp only at h; rw [formV_eq, h]; rfl⟩, ?_⟩
    rintro ⟨f, y⟩ _ ⟨i, hy, hi, rfl, h1, h2⟩
    dsimp only at hy h1 h2
    subst hy
    refine bxL hb1 ?_
    rw [hl]
    refine ift.of (fun h => ?_) (fun h => ?_)
    · simp only [Bool.and_eq_true, decide_eq_true_eq] at h
      have hlt : i < v.l.length := by omega
      obtain ⟨h3, h4⟩ := h1 h.2
      have hmem := List.getElem_mem hlt
      refine bxL hb1 ?_
      refine hr.ld hle1 rfl hlt fun z hz => ?_
      refine ih _ hmem (hz.le hle1) (hB.at hlt) ?_
      dsimp only
      rw [w_i64 (by omega) (by omega)]
      refine ⟨⟨i + 1, by omega, by omega, rfl, fun hf => ⟨h3, ?_⟩, fun hf => ?_⟩, by first | omega | (dsimp only; omega)⟩
      · rw [formVs_take hlt, h4]; exact hf
      · rw [formV_eq, formVs_false hmem hf, Bool.and_false]
    · dsimp only
      refine ⟨H, Gh.le hle1, ?_⟩
      cases hf : f with
      | false => rw [h2 hf] at k; exact k
      | true =>
        rw [hf] at h
        simp only [Bool.and_true, decide_eq_false_iff_not] at h
        have hie : i = v.l.length := by omega
        subst hie
        obtain ⟨h3, h4⟩ := h1 hf
        rw [List.take_length] at h4
        rw [formV_eq, h3, h4] at k; exact k
  refine bxK hb1 ?_
  rw [hk]
  unfold okN
  refine ift.of (fun h => ?_) (fun h => ?_)
  · have h : v.k = 1 := by simpa using h
    rw [if_pos h]
    refine bxN hb1 ?_
    refine ⟨fun b H' => H1 = H' ∧ b = (v.n == 0 || v.n == 1), ?_, ?_⟩
    · rw [hn]
      refine ift.of (fun h => ⟨rfl, by rw [h]; rfl⟩) (fun h => ?_)
      refine bxN hb1 ⟨rfl, ?_⟩
      rw [h, hn]; rfl
    rintro _ _ ⟨rfl, rfl⟩
    refine ⟨fun b H' => H1 = H' ∧ b = ((v.n == 0 || v.n == 1) && v.s.isEmpty), ?_, ?_⟩
    · refine ift.of (fun h => ?_) (fun h => ⟨rfl, by rw [h]; rfl⟩)
      refine bxS hb1 ⟨rfl, ?_⟩
      rw [h, ht, sEmpty]; rfl
    rintro _ _ ⟨rfl, rfl⟩
    refine ⟨fun b H' => H1 = H' ∧ b = ((v.n == 0 || v.n == 1) && v.s.isEmpty && decide (v.l.length = 0)), ?_, ?_⟩
    · refine ift.of (fun h => ?_) (fun h => ⟨rfl, by rw [h]; rfl⟩)
      refine bxL hb1 ⟨rfl, ?_⟩
      rw [h]; exact lenZ hl 0
    rintro _ _ ⟨rfl, rfl⟩
    exact ⟨rfl, rfl⟩
  rw [if_neg (by simpa using h)]
  refine ift.of (fun h => ?_) (fun h => ?_)
  · have h : v.k = 2 := by simpa using h
    rw [if_pos h]
    refine bxS hb1 ?_
    refine ⟨fun b H' => H1 = H' ∧ b = (v.s.isEmpty && decide (v.l.length = 0)), ?_, ?_⟩
    · rw [ht, sEmpty]
      refine ift.of (fun h => ?_) (fun h => ⟨rfl, by rw [h]; rfl⟩)
      refine bxL hb1 ⟨rfl, ?_⟩
      rw [h]; exact lenZ hl 0
    rintro _ _ ⟨rfl, rfl⟩
    exact ⟨rfl, rfl⟩
  rw [if_neg (by simpa using h)]
  refine ift.of (fun h => ?_) (fun h => ?_)
  · have h : v.k = 3 := by simpa using h
    rw [if_pos h]
    refine bxN hb1 ?_
    refine ⟨fun b H' => H1 = H' ∧ b = (v.n == 0 && decide (v.l.length = 0)), ?_, ?_⟩
    · rw [hn]
      refine ift.of (fun h => ?_) (fun h => ⟨rfl, by rw [h]; rfl⟩)
      refine bxL hb1 ⟨rfl, ?_⟩
      rw [h]; exact lenZ hl 0
    rintro _ _ ⟨rfl, rfl⟩
    refine ⟨fun b H' => H1 = H' ∧ b = (numS v.s && v.n == 0 && decide (v.l.length = 0)), ?_, ?_⟩
    · refine ift.of (fun h => ?_) (fun h => ⟨rfl, ?_⟩)
      · refine bxS hb1 ?_
        rw [ht]
        refine ref02_Number_ok hbs ⟨rfl, ?_⟩
        rw [Bool.and_assoc, h, Bool.and_true]
      · rw [Bool.and_assoc, h, Bool.and_false]
    rintro _ _ ⟨rfl, rfl⟩
    exact ⟨rfl, rfl⟩
  rw [if_neg (by simpa using h)]
  refine ift.of (fun h => ?_) (fun h => ?_)
  · have h : v.k = 4 := by simpa using h
    rw [if_pos h]
    refine bxN hb1 ?_
    refine ⟨fun b H' => H1 = H' ∧ b = (v.n == 0 && decide (v.l.length = 0)), ?_, ?_⟩
    · rw [hn]
      refine ift.of (fun h => ?_) (fun h => ⟨rfl, by rw [h]; rfl⟩)
      refine bxL hb1 ⟨rfl, ?_⟩
      rw [h]; exact lenZ hl 0
    rintro _ _ ⟨rfl, rfl⟩
    exact ⟨rfl, rfl⟩
  rw [if_neg (by simpa using h)]
  refine ift.of (fun h => ?_) (fun h => ?_)
  · have h : v.k = 5 := by simpa using h
    rw [if_pos h]
    refine bxN hb1 ?_
    refine ⟨fun b H' => H1 = H' ∧ b = (v.n == 0 && v.s.isEmpty), ?_, ?_⟩
    · rw [hn]
      refine ift.of (fun h => ?_) (fun h => ⟨rfl, by rw [h]; rfl⟩)
      refine bxS hb1 ⟨rfl, ?_⟩
      rw [h, ht, sEmpty]; rfl
    rintro _ _ ⟨rfl, rfl⟩
    refine ⟨fun b H' => H1 = H' ∧ b = (v.n == 0 && v.s.isEmpty && decide (v.l.length ≠ 1)), ?_, ?_⟩
    · refine ift.of (fun h => ?_) (fun h => ⟨rfl, by rw [h]; rfl⟩)
      refine bxL hb1 ⟨rfl, ?_⟩
      rw [h, bne, show ((x.L.len : Int) == 1) = decide (v.l.length = 1) from lenZ hl 1, decide_not]; rfl
    rintro _ _ ⟨rfl, rfl⟩
    exact ⟨rfl, rfl⟩
  rw [if_neg (by simpa using h)]
  refine ift.of (fun h => ?_) (fun h => ?_)
  · have h : v.k = 6 := by simpa using h
    rw [if_pos h]
    refine bxN hb1 ?_
    refine ⟨fun b H' => H1 = H' ∧ b = (v.n == 0 && namesS v.s), ?_, ?_⟩
    · rw [hn]
      refine ift.of (fun h => ?_) (fun h => ⟨rfl, by rw [h]; rfl⟩)
      refine bxS hb1 ?_
      rw [ht]
      refine ref02_Names_ok hbs ⟨rfl, ?_⟩
      rw [h]; rfl
    rintro _ _ ⟨rfl, rfl⟩
    exact ⟨rfl, rfl⟩
  rw [if_neg (by simpa using h)]
  exact ⟨rfl, rfl⟩

theorem okN_num {k n : Int} {s : Str} {m : Nat} (h : okN k n s m = true) (hk : k = 3) : numS s = true := by
  unfold okN at h
  rw [if_neg (by omega), if_neg (by omega), if_pos hk] at h
  simp only [Bool.and_eq_true] at h
  exact h.1.1

theorem ref02_fits_ok {v : V} {x : TV} {H : Heap} {K : Bool → Heap → Prop} (hv : VIs H v x) (hB : VB v) (hF : formV v = true) (k : K (fitsV v) H) : c_ref02_fits C x K H := by
  refine V.rec_ (P := fun v => ∀ {x H} {K : Bool → Heap → Prop}, VIs H v x → VB v → formV v = true → K (fitsV v) H → c_ref02_fits C x K H) (fun v ih => ?_) v hv hB hF k
  clear hv hB hF k
  intro x H K hv hB hF k
  apply c_ref02_fits.gh
  apply ad_ref02_fits
  unfold sh_ref02_fits
  intro b1 n1
  have hr := hv.row
  have hl := hr.len
  have hbl := hB.l
  have hbs := hB.s
  have hk := hv.kind
  have hn := hv.num
  have ht := hv.txt
  rw [formV_eq, Bool.and_eq_true] at hF
  have hb1 : (H.put b1 (.row (T_api_Value.c x))) b1 = some (true, .row (T_api_Value.c x)) := Heap.put_same ..
  have hle1 := Heap.le_put n1 (g := .row (T_api_Value.c x)) (m := true)
  generalize H.put b1 (.row (T_api_Value.c x)) = H1 at *
  refine ⟨fun b H' => H1 = H' ∧ b = fitN v.k v.s v.l.length, ?_, ?_⟩
  rotate_left
  · rintro b _ ⟨rfl, rfl⟩
    refine ⟨fun y H' => ∃ i : Nat, y.2 = (i : Int) ∧ i ≤ v.l.length ∧ H1 = H' ∧ (y.1 = true → fitN v.k v.s v.l.length = true ∧ fitsVs (v.l.take i) = true) ∧ (y.1 = false → fitsV v = false), fun y _ => v.l.length - y.2.toNat, ⟨0, rfl, Nat.zero_le _, rfl, fun h => ⟨h, rfl⟩, fun h => by dsimp only at h; rw [fitsV_eq, h]; rfl⟩, ?_⟩
    rintro ⟨f, y⟩ _ ⟨i, hy, hi, rfl, h1, h2⟩
    dsimp only at hy h1 h2
    subst hy
    refine bxL hb1 ?_
    rw [hl]
    refine ift.of (fun h => ?_) (fun h => ?_)
    · simp only [Bool.and_eq_true, decide_eq_true_eq] at h
      have hlt : i < v.l.length := by omega
      obtain ⟨h3, h4⟩ := h1 h.2
      have hmem := List.getElem_mem hlt
      refine bxL hb1 ?_
      refine hr.ld hle1 rfl hlt fun z hz => ?_
      refine ih _ hmem (hz.le hle1) (hB.at hlt) (formVs_mem hmem hF.2) ?_
      dsimp only
      rw [w_i64 (by omega) (by omega)]
      refine ⟨⟨i + 1, by omega, by omega, rfl, fun hf => ⟨h3, ?_⟩, fun hf => ?_⟩, by first | omega | (dsimp only; omega)⟩
      · rw [fitsVs_take hlt, h4]; exact hf
      · have h5 : fitsVs (v.l.take (i + 1)) = false := by rw [fitsVs_take hlt]; rw [hf, Bool.and_false]
        have h6 := fitsVs_append (v.l.take (i + 1)) (v.l.drop (i + 1))
        rw [List.take_append_drop, h5] at h6
        rw [fitsV_eq, h6]; simp
    · dsimp only
      refine ⟨H, Gh.le hle1, ?_⟩
      cases hf : f with
      | false => rw [h2 hf] at k; exact k
      | true =>
        rw [hf] at h
        simp only [Bool.and_true, decide_eq_false_iff_not] at h
        have hie : i = v.l.length := by omega
        subst hie
        obtain ⟨h3, h4⟩ := h1 hf
        rw [List.take_length] at h4
        rw [fitsV_eq, h3, h4] at k; exact k
  refine bxK hb1 ?_
  rw [hk]
  unfold fitN
  refine ift.of (fun h => ?_) (fun h => ?_)
  · have h : v.k = 3 := by simpa using h
    rw [if_pos h]
    refine bxS hb1 ?_
    rw [ht]
    refine ref02_Digits_ok hbs (okN_num hF.1 h) ⟨rfl, ?_⟩
    rw [decide_eq_decide]; omega
  rw [if_neg (by simpa using h)]
  refine ift.of (fun h => ?_) (fun h => ?_)
  · have h : v.k = 4 := by simpa using h
    rw [if_pos h]
    refine bxS hb1 ⟨rfl, ?_⟩
    rw [ht, decide_eq_decide]; omega
  rw [if_neg (by simpa using h)]
  refine ift.of (fun h => ?_) (fun h => ?_)
  · have h : v.k = 5 := by simpa using h
    rw [if_pos h]
    refine bxL hb1 ⟨rfl, ?_⟩
    rw [decide_eq_decide]; omega
  rw [if_neg (by simpa using h)]
  refine ift.of (fun h => ?_) (fun h => ?_)
  · have h : v.k = 6 := by simpa using h
    rw [if_pos h]
    refine bxL hb1 ⟨rfl, ?_⟩
    rw [decide_eq_decide]; omega
  rw [if_neg (by simpa using h)]
  exact ⟨rfl, rfl⟩

theorem ref02_Check_ok {v : V} {x : TV} {H : Heap} {K : Int → Heap → Prop} (hv : VIs H v x) (hB : VB v) (hs : vsize v ≤ 4611686018427387904) (k : K (checkV v) H) : c_ref02_Check C x K H := by
  apply c_ref02_Check.gh
  apply ad_ref02_Check
  unfold sh_ref02_Check
  intro b1 n1
  have hb1 : (H.put b1 (.row (T_api_Value.c x))) b1 = some (true, .row (T_api_Value.c x)) := Heap.put_same ..
  have hle1 := Heap.le_put n1 (g := .row (T_api_Value.c x)) (m := true)
  generalize H.put b1 (.row (T_api_Value.c x)) = H1 at *
  unfold checkV at k
  refine bxV hb1 (ref02_Depth_ok (hv.le hle1) hB hs ?_)
  refine ift.of (fun h => ?_) (fun h => ?_)
  · have h := of_decide_eq_true h
    rw [if_pos (by omega)] at k
    exact ⟨H, Gh.le hle1, k⟩
  have h := of_decide_eq_false h
  rw [if_neg (by omega)] at k
  refine bxV hb1 (ref02_form_ok (hv.le hle1) hB ?_)
  refine ift.of (fun h => ?_) (fun h => ?_)
  · have h : formV v = false := by simpa using h
    rw [if_pos h] at k
    exact ⟨H, Gh.le hle1, k⟩
  have hf : formV v = true := by simpa using h
  rw [if_neg (by rw [hf]; decide)] at k
  refine bxV hb1 (ref02_fits_ok (hv.le hle1) hB hf ?_)
  refine ift.of (fun h => ?_) (fun h => ?_)
  · have h : fitsV v = false := by simpa using h
    rw [if_pos h] at k
    exact ⟨H, Gh.le hle1, k⟩
  have hf : fitsV v = true := by simpa using h
  rw [if_neg (by rw [hf]; decide)] at k
  exact ⟨H, Gh.le hle1, k⟩
end
end Sx
