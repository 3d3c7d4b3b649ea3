/-
  The laws CodePlain and CodeShort over the ghost heap.
-/
import Derived.Test.YtlpjpjbgfffffaaCodeP6
set_option linter.unusedVariables false
set_option linter.unusedSimpArgs false
set_option maxRecDepth 10000
namespace Sx
open Go Go.Proofs

section
variable {C : Ctx} {H : Heap}

theorem OwnF.rd {H0 H H2 : Heap} {s : Sl} {a : Str} (h : OwnF H0 H 1 s (bytesV a)) (hle : H.le H2) : rdsl H2 s (bytesV a) ∧ s.len = a.length := ⟨rdsl_le hle h.own.rdsl, h.lenB⟩

/-- one of the three parts: two things' bytes, with others behind -/
theorem part_ok2 {a c : Str} {lt : Bool} {e : Bool} (h : e = false → (lt = true → Lt a c) ∧ (lt = false → Lt c a)) {x y : Sl} {u v : Str}
    (hx : rdsl H x (bytesV (a ++ u)) ∧ x.len = (a ++ u).length) (hy : rdsl H y (bytesV (c ++ v)) ∧ y.len = (c ++ v).length) :
    ift e (true = true ∧ H = H) (c_law03_stands C x y (fun r H2 => ((decide ((r : Int) < 0)) == lt) = true ∧ H = H2) H) := by
  refine ift.of (fun _ => ⟨rfl, rfl⟩) (fun he => ?_)
  obtain ⟨h1, h2⟩ := h he
  refine stands_ok hx.1 hx.2 hy.1 hy.2 fun r hr _ _ _ => ?_
  have e2 : (decide (r < 0) == lt) = true := by
    cases lt with
    | true =>
      have := ((h1 rfl).app u v).cmp.1
      rw [decide_eq_true (hr.2 (by rw [this]; decide))]; rfl
    | false =>
      have := ((h2 rfl).app v u).cmp.2
      rw [decide_eq_false (fun hh => by have := hr.1 hh; omega)]; rfl
  exact ⟨e2, rfl⟩

theorem Nm_le {n : Int} (h0 : -9223372036854775808 ≤ n) (h1 : n ≤ 9223372036854775807) : (Nm n).length ≤ 9 := (Nm_len h0 h1).2
theorem Tx_len (s : Str) : (Tx s).length = s.length + zc s + 2 := by simp [Tx, esc_length]
theorem zc_le (s : Str) : zc s ≤ s.length := List.length_filter_le _ _

theorem CodePlain_ok {n m c d : Int} {s t : Str} {x y : Sl} {u v : Str} {K : Bool → Heap → Prop} (hn0 : -9223372036854775808 ≤ n) (hn1 : n ≤ 9223372036854775807) (hm0 : -9223372036854775808 ≤ m) (hm1 : m ≤ 9223372036854775807)
    (hc0 : -9223372036854775808 ≤ c) (hc1 : c ≤ 9223372036854775807) (hd0 : -9223372036854775808 ≤ d) (hd1 : d ≤ 9223372036854775807)
    (hx : rdsl H x (bytesV u)) (hxl : x.len = u.length) (hy : rdsl H y (bytesV v)) (hyl : y.len = v.length) (k : ∀ H2, K true H2) : c_law03_CodePlain C n m c d s t x y K H := by
  apply ad_law03_CodePlain
  unfold sh_law03_CodePlain
  refine ⟨fun b H' => b = true ∨ (b = false ∧ H.le H' ∧ s.length ≤ 3000 ∧ t.length ≤ 3000 ∧ u.length ≤ 3000 ∧ v.length ≤ 3000), ?_, ?_⟩
  · refine ift.of (fun h => .inl rfl) (fun h => ?_)
    simp only [Bool.or_eq_false_iff, decide_eq_false_iff_not] at h
    refine works_ok fun H2 hle => .inr ⟨rfl, hle, by omega, by omega, by omega, by omega⟩
  rintro b H1 (rfl | ⟨rfl, hle, hs, ht, hu, hv⟩)
  · exact ift_pos rfl (works_ok fun H2 _ => k H2)
  refine ift_neg rfl ?_
  have hx := rdsl_le hle hx
  have hy := rdsl_le hle hy
  clear hle
  obtain ⟨c', hc', hcb⟩ := bAnd_i64_nat hc0 hc1
  obtain ⟨d', hd', hdb⟩ := bAnd_i64_nat hd0 hd1
  rw [hc', hd']
  have l1 := Nm_le hn0 hn1
  have l2 := Nm_le hm0 hm1
  have l3 := Ct_len hcb
  have l4 := Ct_len hdb
  have l5 := Tx_len s
  have l6 := Tx_len t
  have k3 := kl_le4 hcb
  have k4 := kl_le4 hdb
  have z5 := zc_le s
  have z6 := zc_le t
  refine code_Num_ok (a := []) rdsl_none rfl hn0 hn1 (by decide) fun r1 H2 h1 => ?_
  rw [List.nil_append] at h1
  have hx2 := rdsl_le h1.le hx
  have hy2 := rdsl_le h1.le hy
  refine law_behind_ok h1.own.rdsl h1.lenB hx2 hxl (by omega) fun r2 H3 h2 => ?_
  have hy3 := rdsl_le h2.le hy2
  have hx3 := rdsl_le h2.le hx2
  refine code_Num_ok (a := []) rdsl_none rfl hm0 hm1 (by decide) fun r3 H4 h3 => ?_
  rw [List.nil_append] at h3
  have hy4 := rdsl_le h3.le hy3
  have hx4 := rdsl_le h3.le hx3
  have a2 := h2.rd h3.le
  refine law_behind_ok h3.own.rdsl h3.lenB hy4 hyl (by omega) fun r4 H5 h4 => ?_
  have hy5 := rdsl_le h4.le hy4
  have hx5 := rdsl_le h4.le hx4
  have a2 := And.intro (rdsl_le h4.le a2.1) a2.2
  refine code_Count_ok (a := []) rdsl_none rfl (by decide) fun r5 H6 h5 => ?_
  rw [List.nil_append] at h5
  have hy6 := rdsl_le h5.le hy5
  have hx6 := rdsl_le h5.le hx5
  have a2 := And.intro (rdsl_le h5.le a2.1) a2.2
  have a4 := h4.rd h5.le
  refine law_behind_ok h5.own.rdsl h5.lenB hx6 hxl (by omega) fun r6 H7 h6 => ?_
  have hy7 := rdsl_le h6.le hy6
  have hx7 := rdsl_le h6.le hx6
  have a2 := And.intro (rdsl_le h6.le a2.1) a2.2
  have a4 := And.intro (rdsl_le h6.le a4.1) a4.2
  refine code_Count_ok (a := []) rdsl_none rfl (by decide) fun r7 H8 h7 => ?_
  rw [List.nil_append] at h7
  have hy8 := rdsl_le h7.le hy7
  have hx8 := rdsl_le h7.le hx7
  have a2 := And.intro (rdsl_le h7.le a2.1) a2.2
  have a4 := And.intro (rdsl_le h7.le a4.1) a4.2
  have a6 := h6.rd h7.le
  refine law_behind_ok h7.own.rdsl h7.lenB hy8 hyl (by omega) fun r8 H9 h8 => ?_
  have hy9 := rdsl_le h8.le hy8
  have hx9 := rdsl_le h8.le hx8
  have a2 := And.intro (rdsl_le h8.le a2.1) a2.2
  have a4 := And.intro (rdsl_le h8.le a4.1) a4.2
  have a6 := And.intro (rdsl_le h8.le a6.1) a6.2
  refine code_Str_ok (a := []) rdsl_none rfl (by simp; omega) fun r9 H10 h9 => ?_
  rw [List.nil_append] at h9
  have hy10 := rdsl_le h9.le hy9
  have hx10 := rdsl_le h9.le hx9
  have a2 := And.intro (rdsl_le h9.le a2.1) a2.2
  have a4 := And.intro (rdsl_le h9.le a4.1) a4.2
  have a6 := And.intro (rdsl_le h9.le a6.1) a6.2
  have a8 := h8.rd h9.le
  refine law_behind_ok h9.own.rdsl h9.lenB hx10 hxl (by omega) fun r10 H11 h10 => ?_
  have hy11 := rdsl_le h10.le hy10
  have a2 := And.intro (rdsl_le h10.le a2.1) a2.2
  have a4 := And.intro (rdsl_le h10.le a4.1) a4.2
  have a6 := And.intro (rdsl_le h10.le a6.1) a6.2
  have a8 := And.intro (rdsl_le h10.le a8.1) a8.2
  refine code_Str_ok (a := []) rdsl_none rfl (by simp; omega) fun r11 H12 h11 => ?_
  rw [List.nil_append] at h11
  have hy12 := rdsl_le h11.le hy11
  have a2 := And.intro (rdsl_le h11.le a2.1) a2.2
  have a4 := And.intro (rdsl_le h11.le a4.1) a4.2
  have a6 := And.intro (rdsl_le h11.le a6.1) a6.2
  have a8 := And.intro (rdsl_le h11.le a8.1) a8.2
  have a10 := h10.rd h11.le
  refine law_behind_ok h11.own.rdsl h11.lenB hy12 hyl (by omega) fun r12 H13 h12 => ?_
  have a2 := And.intro (rdsl_le h12.le a2.1) a2.2
  have a4 := And.intro (rdsl_le h12.le a4.1) a4.2
  have a6 := And.intro (rdsl_le h12.le a6.1) a6.2
  have a8 := And.intro (rdsl_le h12.le a8.1) a8.2
  have a10 := And.intro (rdsl_le h12.le a10.1) a10.2
  have a12 := h12.rd (Heap.le.refl _)
  refine ⟨fun b H' => b = true ∧ H13 = H', part_ok2 (fun he => ?_) a2 a4, ?_⟩
  · have hne : n ≠ m := by simpa using he
    exact ⟨fun hl => Nm_lt hn0 hm1 (of_decide_eq_true hl), fun hl => Nm_lt hm0 hn1 (by have := of_decide_eq_false hl; omega)⟩
  rintro _ _ ⟨rfl, rfl⟩
  refine ⟨fun b H' => b = true ∧ H13 = H', ift_pos rfl ⟨fun b H' => b = true ∧ H13 = H', part_ok2 (fun he => ?_) a6 a8, fun _ _ h => h⟩, ?_⟩
  · have hne : (c' : Int) ≠ d' := by simpa using he
    exact ⟨fun hl => Ct_lt hdb (by have := of_decide_eq_true hl; omega), fun hl => Ct_lt hcb (by have := of_decide_eq_false hl; omega)⟩
  rintro _ _ ⟨rfl, rfl⟩
  refine ⟨fun b H' => b = true ∧ H13 = H', ift_pos rfl ⟨fun b H' => b = true ∧ H13 = H', part_ok2 (fun he => ?_) a10 a12, fun _ _ h => h⟩, ?_⟩
  · have hne : s ≠ t := by simpa using he
    have hcm := slt_cmp s t
    refine ⟨fun hl => Tx_lt s t (by rw [hcm.1] at hl; exact of_decide_eq_true hl), fun hl => Tx_lt t s ?_⟩
    rw [hcm.1] at hl
    have h1 := of_decide_eq_false hl
    have h2 : cmpS s t ≠ 0 := fun e => hne (hcm.2.1 e)
    rw [cmpS_anti s t]; omega
  rintro _ _ ⟨rfl, rfl⟩
  exact k _

theorem CodeShort_ok {n c d : Int} {s : Str} {K : Bool → Heap → Prop} (hn0 : -9223372036854775808 ≤ n) (hn1 : n ≤ 9223372036854775807)
    (hc0 : -9223372036854775808 ≤ c) (hc1 : c ≤ 9223372036854775807) (hd0 : -9223372036854775808 ≤ d) (hd1 : d ≤ 9223372036854775807) (k : ∀ H2, K true H2) : c_law03_CodeShort C n c d s K H := by
  apply ad_law03_CodeShort
  unfold sh_law03_CodeShort
  refine ⟨fun b H' => b = true ∨ (b = false ∧ s.length ≤ 3000), ?_, ?_⟩
  · refine ift.of (fun h => .inl rfl) (fun h => ?_)
    have := of_decide_eq_false h
    exact works_ok fun H2 hle => .inr ⟨rfl, by omega⟩
  rintro b H1 (rfl | ⟨rfl, hs⟩)
  · exact ift_pos rfl (works_ok fun H2 _ => k H2)
  refine ift_neg rfl ?_
  obtain ⟨c', hc', hcb⟩ := bAnd_i64_nat hc0 hc1
  obtain ⟨d', hd', hdb⟩ := bAnd_i64_nat hd0 hd1
  rw [hc', hd', w_i64 (x := -1 - n) (by omega) (by omega)]
  have l1 := Nm_len hn0 hn1
  have l5 := Tx_len s
  have z5 := zc_le s
  refine code_Num_ok (a := []) rdsl_none rfl hn0 hn1 (by decide) fun r1 H2 h1 => ?_
  rw [List.nil_append] at h1
  refine code_Num_ok (a := []) rdsl_none rfl (by omega) (by omega) (by decide) fun r2 H3 h2 => ?_
  rw [List.nil_append, Nm_turn] at h2
  obtain ⟨a1, b1⟩ := h1.rd h2.le
  have a2 := h2.own.rdsl
  have b2 := h2.lenB
  rw [List.length_map] at b2
  refine ift_neg ?_ ?_
  · rw [b1, b2]; simp; omega
  refine ⟨fun x H' => ∃ i : Nat, x = (i : Int) ∧ i ≤ (Nm n).length ∧ H3 = H', fun x _ => (Nm n).length - x.toNat, ⟨0, rfl, Nat.zero_le _, rfl⟩, ?_⟩
  rintro x _ ⟨i, rfl, hi, rfl⟩
  refine ift.of (fun h => ?_) (fun h => ?_)
  · have hlt : i < (Nm n).length := by have := of_decide_eq_true h; omega
    refine ix_ldI a1 (j := i) rfl (by omega) (bytes_at hlt) ?_
    refine ix_ldI a2 (j := i) rfl (by omega) (bytes_at (by simpa using hlt)) ?_
    have e1 : ((Nm n).map (· ^^^ 255)).getD i 0 = (Nm n).getD i 0 ^^^ 255 := by simp [List.getD, hlt]
    rw [e1, xor255]
    have := u8_lt ((Nm n).getD i 0)
    generalize ((Nm n).getD i 0).toNat = v at *
    rw [w_i64 (x := (v : Int)) (by omega) (by omega), w_i64 (x := ((255 - v : Nat) : Int)) (by omega) (by omega), w_i64 (by omega) (by omega)]
    refine ift_neg (by simp; omega) ?_
    rw [w_i64 (by omega) (by omega)]
    exact ⟨⟨i + 1, by omega, by omega, rfl⟩, by dsimp only; omega⟩
  · rw [w_i64 (by omega) (by omega)]
    refine ⟨fun x H' => ∃ i : Nat, x = (((s.length + 2 + zc (s.take i) : Nat) : Int), (i : Int)) ∧ i ≤ s.length ∧ H3 = H', fun x _ => s.length - x.2.toNat, ⟨0, by simp [zc], Nat.zero_le _, rfl⟩, ?_⟩
    rintro x _ ⟨i, rfl, hi, rfl⟩
    have zi := zc_le (s.take i)
    have hti : (s.take i).length = i := by simp; omega
    refine ift.of (fun h => ?_) (fun h => ?_)
    · have hlt : i < s.length := by have := of_decide_eq_true h; dsimp only at this; omega
      have hz : zc (s.take (i + 1)) = zc (s.take i) + (if s.getD i 0 = 0 then 1 else 0) := by
        rw [List.take_add_one, getD_some hlt]
        generalize s.getD i 0 = v
        unfold zc
        rw [List.filter_append, List.length_append]
        by_cases h0 : v = 0
        · simp [h0]
        · simp [h0]
      refine ⟨fun x H' => x = ((s.length + 2 + zc (s.take (i + 1)) : Nat) : Int) ∧ H3 = H', ⟨s.getD i 0, by dsimp only; omega, getD_some hlt, ?_⟩, ?_⟩
      · rw [hz]
        dsimp only
        refine ift.of (fun h0 => ⟨?_, rfl⟩) (fun h0 => ⟨?_, rfl⟩)
        · have h1 : (s.getD i 0).toNat = 0 := by simpa using h0
          have h2 : s.getD i 0 = 0 := UInt8.toNat_inj.1 h1
          rw [if_pos h2, w_i64 (by omega) (by omega)]; omega
        · have h2 : s.getD i 0 ≠ 0 := fun e => by rw [e] at h0; simp at h0
          rw [if_neg h2]; omega
      · rintro _ _ ⟨rfl, rfl⟩
        dsimp only
        rw [w_i64 (by omega) (by omega)]
        exact ⟨⟨i + 1, rfl, by omega, rfl⟩, by omega⟩
    · have hie : i = s.length := by have := of_decide_eq_false h; dsimp only at this; omega
      subst hie
      rw [List.take_length]
      dsimp only
      obtain ⟨mx, hmx, hmx1, hmx2, hmx3⟩ : ∃ mx : Nat, (if (d' : Int) > c' then (d' : Int) else c') = (mx : Int) ∧ mx ≤ 2147483647 ∧ c' ≤ mx ∧ d' ≤ mx := by
        split
        · exact ⟨d', rfl, hdb, by omega, by omega⟩
        · exact ⟨c', rfl, hcb, by omega, by omega⟩
      obtain ⟨mn, hmn, hmn1⟩ : ∃ mn : Nat, (if (d' : Int) < c' then (d' : Int) else c') = (mn : Int) ∧ mn ≤ mx := by
        split
        · exact ⟨d', rfl, hmx3⟩
        · exact ⟨c', rfl, hmx2⟩
      rw [hmx, hmn]
      have l3 := Ct_len hmx1
      have l4 := Ct_len (Nat.le_trans hmn1 hmx1)
      have k3 := kl_le4 hmx1
      have k4 := kl_mono hmn1
      refine code_Count_ok (a := []) rdsl_none rfl (by decide) fun r3 H4 h3 => ?_
      have b3 := h3.lenB
      rw [List.nil_append] at b3
      refine ⟨fun b H' => b = true, ift_pos (decide_eq_true (by omega)) ?_, ?_⟩
      · refine code_Count_ok (a := []) rdsl_none rfl (by decide) fun r4 H5 h4 => ?_
        have b4 := h4.lenB
        rw [List.nil_append] at b4
        refine code_Count_ok (a := []) rdsl_none rfl (by decide) fun r5 H6 h5 => ?_
        have b5 := h5.lenB
        rw [List.nil_append] at b5
        exact decide_eq_true (by omega)
      rintro _ H5 rfl
      refine ⟨fun b H' => b = true, ift_pos rfl (code_Str_ok (a := []) rdsl_none rfl (by simp; omega) fun r6 H6 h6 => ?_), ?_⟩
      · have b6 := h6.lenB
        rw [List.nil_append] at b6
        rw [b6, l5]; simp; omega
      rintro _ H6 rfl
      exact k _
end
end Sx
