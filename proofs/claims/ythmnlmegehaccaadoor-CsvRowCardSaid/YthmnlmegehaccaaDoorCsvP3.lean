/-
  The document's reader of records.
-/
import Derived.Test.YthmnlmegehaccaaDoorCsvP2
set_option linter.unusedVariables false
set_option linter.unusedSimpArgs false
set_option maxRecDepth 10000
namespace Sx
open Go Go.Proofs

section
variable {C : Ctx} {H : Heap}

theorem end_ok {t : Str} {i : Nat} {K : Int → Heap → Prop} (hi : i ≤ t.length) (hl : t.length ≤ 100000000) (k : K (endC (t.drop i) : Int) H) : c_ref28_end C t (i : Int) K H := by
  apply ad_ref28_end
  unfold sh_ref28_end
  have e1 : w .i64 ((i : Int) + 1) = ((i + 1 : Nat) : Int) := w_i64 (by omega) (by omega)
  refine ⟨fun b H' => H = H' ∧ b = (decide (i < t.length) && decide (t.getD i 0 = 10)), ?_, ?_⟩
  · refine ift.of (fun h => ?_) (fun h => ⟨rfl, ?_⟩)
    · have h : i < t.length := by have := of_decide_eq_true h; omega
      exact ⟨t.getD i 0, by omega, getD_some h, rfl, by rw [e10, decide_eq_true h]; rfl⟩
    · have h : ¬ i < t.length := by have := of_decide_eq_false h; omega
      rw [decide_eq_false h]; rfl
  rintro _ _ ⟨rfl, rfl⟩
  refine ift.of (fun h => ?_) (fun h => ?_)
  · simp only [Bool.and_eq_true, decide_eq_true_eq] at h
    rw [drop_cons h.1] at k
    simp only [endC, if_pos h.2] at k
    exact k
  have hn : i < t.length → t.getD i 0 ≠ 10 := fun hlt => by simpa [hlt] using h
  refine ⟨fun b H' => H = H' ∧ b = (decide (i + 1 < t.length) && decide (t.getD i 0 = 13)), ?_, ?_⟩
  · rw [e1]
    refine ift.of (fun h => ?_) (fun h => ⟨rfl, ?_⟩)
    · have h : i + 1 < t.length := by have := of_decide_eq_true h; omega
      exact ⟨t.getD i 0, by omega, getD_some (by omega), rfl, by rw [e13, decide_eq_true h]; rfl⟩
    · have h : ¬ i + 1 < t.length := by have := of_decide_eq_false h; omega
      rw [decide_eq_false h]; rfl
  rintro _ _ ⟨rfl, rfl⟩
  refine ⟨fun b H' => H = H' ∧ b = (decide (i + 1 < t.length) && decide (t.getD i 0 = 13) && decide (t.getD (i + 1) 0 = 10)), ?_, ?_⟩
  · refine ift.of (fun h => ?_) (fun h => ⟨rfl, by rw [h]; rfl⟩)
    rw [h, e1]
    simp only [Bool.and_eq_true, decide_eq_true_eq] at h
    exact ⟨t.getD (i + 1) 0, by omega, getD_some (by omega), rfl, by rw [e10]; rfl⟩
  rintro _ _ ⟨rfl, rfl⟩
  have hnl := headNl_drop t (i + 1)
  refine ift.of (fun h => ?_) (fun h => ?_)
  · simp only [Bool.and_eq_true, decide_eq_true_eq] at h
    obtain ⟨⟨h1, h2⟩, h3⟩ := h
    rw [if_pos h1, decide_eq_true h3] at hnl
    rw [drop_cons (by omega)] at k
    have hn := hn (by omega)
    simp only [endC, if_neg hn, if_pos (And.intro h2 hnl)] at k
    exact k
  · by_cases hlt : i < t.length
    · have hn := hn hlt
      rw [drop_cons hlt] at k
      have h3 : ¬ (t.getD i 0 = 13 ∧ headNl (t.drop (i + 1)) = true) := fun hh => by
        by_cases h1 : i + 1 < t.length
        · rw [if_pos h1] at hnl
          have h4 : t.getD (i + 1) 0 = 10 := of_decide_eq_true (by rw [← hnl]; exact hh.2)
          rw [decide_eq_true h1, decide_eq_true hh.1, decide_eq_true h4] at h; cases h
        · rw [if_neg h1] at hnl; rw [hnl] at hh; cases hh.2
      simp only [endC, if_neg hn, if_neg h3] at k
      exact k
    · rw [List.drop_eq_nil_of_le (by omega)] at k
      exact k

theorem field_ok {t : Str} {i : Nat} {K : Str → Int → Bool → Heap → Prop} (hi : i ≤ t.length) (hl : t.length ≤ 100000000) (k0 : fieldC (t.drop i) = none → K [] 0 false H) (k1 : ∀ f r, fieldC (t.drop i) = some (f, r) → ∀ j : Nat, j ≤ t.length → i ≤ j → t.drop j = r → K f (j : Int) true H) : c_ref28_field C t (i : Int) K H := by
  apply c_ref28_field.gh
  apply ad_ref28_field
  unfold sh_ref28_field
  refine ⟨fun b H' => H = H' ∧ b = (decide (i < t.length) && decide (t.getD i 0 = 34)), ?_, ?_⟩
  · refine ift.of (fun h => ?_) (fun h => ⟨rfl, ?_⟩)
    · have h : i < t.length := by have := of_decide_eq_true h; omega
      exact ⟨t.getD i 0, by omega, getD_some h, rfl, by rw [e34, decide_eq_true h]; rfl⟩
    · have h : ¬ i < t.length := by have := of_decide_eq_false h; omega
      rw [decide_eq_false h]; rfl
  rintro _ _ ⟨rfl, rfl⟩
  refine ift.of (fun h => ?_) (fun h => ?_)
  · simp only [Bool.and_eq_true, decide_eq_true_eq] at h
    obtain ⟨hlt, h34⟩ := h
    have ef : fieldC (t.drop i) = qf [] (t.drop (i + 1)) := by rw [drop_cons hlt]; simp only [fieldC, if_pos h34]
    rw [ef] at k0 k1
    rw [w_i64 (by omega) (by omega)]
    refine ⟨fun x H' => ∃ (j : Nat) (acc : Str), x.1 = (j : Int) ∧ i ≤ j ∧ j ≤ t.length ∧ acc.length ≤ j ∧ OwnF H H' 1 x.2 (bytesV acc) ∧ qf acc (t.drop j) = qf [] (t.drop (i + 1)), fun x _ => t.length - x.1.toNat, ⟨i + 1, [], by simp, by omega, by omega, Nat.zero_le _, OwnF.nil H 1, rfl⟩, ?_⟩
    rintro ⟨x1, x2⟩ H' ⟨j, acc, hx, hij, hj, hacc, ho, hq⟩
    dsimp only at hx ho
    subst hx
    dsimp only
    have hx2 := ho.lenB
    refine ift.of (fun h => ?_) (fun h => ?_)
    · have hje : j = t.length := by have := of_decide_eq_true h; omega
      rw [hje, List.drop_length] at hq
      exact ⟨H, Gh.le ho.le, k0 hq.symm⟩
    have hjl : j < t.length := by have := of_decide_eq_false h; omega
    refine ⟨t.getD j 0, by omega, getD_some hjl, ?_⟩
    rw [drop_cons hjl] at hq
    rw [e34]
    have ej1 : w .i64 ((j : Int) + 1) = ((j + 1 : Nat) : Int) := w_i64 (by omega) (by omega)
    have ej2 : w .i64 ((j : Int) + 2) = ((j + 2 : Nat) : Int) := w_i64 (by omega) (by omega)
    refine ift.of (fun h => ?_) (fun h => ?_)
    · have h := of_decide_eq_true h
      rw [ej1]
      refine ⟨fun b H2 => H' = H2 ∧ b = (decide (j + 1 < t.length) && decide (t.getD (j + 1) 0 = 34)), ?_, ?_⟩
      · refine ift.of (fun h => ?_) (fun h => ⟨rfl, ?_⟩)
        · have h : j + 1 < t.length := by have := of_decide_eq_true h; omega
          exact ⟨t.getD (j + 1) 0, by omega, getD_some h, rfl, by rw [e34, decide_eq_true h]; rfl⟩
        · have h : ¬ j + 1 < t.length := by have := of_decide_eq_false h; omega
          rw [decide_eq_false h]; rfl
      rintro _ _ ⟨rfl, rfl⟩
      refine ift.of (fun h2 => ?_) (fun h2 => ?_)
      · simp only [Bool.and_eq_true, decide_eq_true_eq] at h2
        refine apd_ownF (zc := [.int .u8 0]) ho rfl (by omega) (by omega) fun r H2 h3 _ => ?_
        rw [ej2]
        refine ⟨⟨j + 2, acc ++ [34], rfl, by omega, by omega, by simp; omega, by rw [bytesV_append]; exact h3, ?_⟩, by first | omega | (dsimp only; omega)⟩
        rw [← hq, drop_cons h2.1]
        simp only [qf, if_pos h, if_pos h2.2]
      · refine b2s_of (s := acc) ho.own.rdsl hx2 ⟨H, Gh.le ho.le, ?_⟩
        refine k1 acc (t.drop (j + 1)) ?_ (j + 1) (by omega) (by omega) rfl
        rw [← hq]
        by_cases hlt2 : j + 1 < t.length
        · have h3 : t.getD (j + 1) 0 ≠ 34 := by simpa [hlt2] using h2
          rw [drop_cons hlt2]; simp only [qf, if_pos h, if_neg h3]
        · rw [List.drop_eq_nil_of_le (by omega)]; simp only [qf, if_pos h]
    · have h := of_decide_eq_false h
      refine ⟨t.getD j 0, by omega, getD_some hjl, ?_⟩
      refine apd_ownF (zc := [.int .u8 0]) ho rfl (by omega) (by omega) fun r H2 h3 _ => ?_
      rw [ej1]
      refine ⟨⟨j + 1, acc ++ [t.getD j 0], rfl, by omega, by omega, by simp; omega, by rw [bytesV_append]; exact h3, ?_⟩, by first | omega | (dsimp only; omega)⟩
      rw [← hq]
      generalize t.drop (j + 1) = u
      cases u with
      | nil => simp only [qf, if_neg h]
      | cons d u => simp only [qf, if_neg h]
  · have ef : fieldC (t.drop i) = pf [] (t.drop i) := by
      by_cases hlt : i < t.length
      · have h34 : t.getD i 0 ≠ 34 := by simpa [hlt] using h
        rw [drop_cons hlt]; simp only [fieldC, if_neg h34]
      · rw [List.drop_eq_nil_of_le (by omega)]; rfl
    rw [ef] at k0 k1
    refine ⟨fun x H' => ∃ j : Nat, x = (j : Int) ∧ i ≤ j ∧ j ≤ t.length ∧ H = H' ∧ pf ((t.take j).drop i) (t.drop j) = pf [] (t.drop i), fun x _ => t.length - x.toNat, ⟨i, rfl, Nat.le_refl _, hi, rfl, by rw [List.drop_eq_nil_of_le (by simp; omega)]⟩, ?_⟩
    rintro x _ ⟨j, rfl, hij, hj, rfl, hp⟩
    have ej1 : w .i64 ((j : Int) + 1) = ((j + 1 : Nat) : Int) := w_i64 (by omega) (by omega)
    refine ⟨fun b H2 => H = H2 ∧ b = (decide (j < t.length) && !decide (t.getD j 0 = 44)), ?_, ?_⟩
    · refine ift.of (fun h => ?_) (fun h => ⟨rfl, ?_⟩)
      · have h : j < t.length := by have := of_decide_eq_true h; omega
        exact ⟨t.getD j 0, by omega, getD_some h, rfl, by rw [n44, decide_eq_true h]; rfl⟩
      · have h : ¬ j < t.length := by have := of_decide_eq_false h; omega
        rw [decide_eq_false h]; rfl
    rintro _ _ ⟨rfl, rfl⟩
    refine ⟨fun b H2 => H = H2 ∧ b = (decide (j < t.length) && !decide (t.getD j 0 = 44) && decide (endC (t.drop j) = 0)), ?_, ?_⟩
    · refine ift.of (fun h => ?_) (fun h => ⟨rfl, by rw [h]; rfl⟩)
      refine end_ok hj hl ⟨rfl, ?_⟩
      rw [h, Bool.true_and]
      rw [Bool.eq_iff_iff]; simp only [decide_eq_true_eq, beq_iff_eq]; omega
    rintro _ _ ⟨rfl, rfl⟩
    refine ift.of (fun h => ?_) (fun h => ?_)
    · simp only [Bool.and_eq_true, decide_eq_true_eq, Bool.not_eq_true', decide_eq_false_iff_not] at h
      obtain ⟨⟨hjl, h44⟩, he⟩ := h
      rw [drop_cons hjl] at hp he
      simp only [pf] at hp
      rw [if_neg (fun hh => hh.elim h44 (fun h2 => h2 he))] at hp
      refine ⟨t.getD j 0, by omega, getD_some hjl, ?_⟩
      refine ⟨fun b H2 => H = H2 ∧ b = (decide (t.getD j 0 = 34) || decide (t.getD j 0 = 13)), ?_, ?_⟩
      · rw [e34]
        refine ift.of (fun h => ⟨rfl, by rw [h]; rfl⟩) (fun h => ?_)
        exact ⟨t.getD j 0, by omega, getD_some hjl, rfl, by rw [e13, h]; rfl⟩
      rintro _ _ ⟨rfl, rfl⟩
      refine ift.of (fun h => ?_) (fun h => ?_)
      · simp only [Bool.or_eq_true, decide_eq_true_eq] at h
        rw [if_pos h] at hp
        exact ⟨H, Gh.refl _, k0 hp.symm⟩
      · have h' : ¬ (t.getD j 0 = 34 ∨ t.getD j 0 = 13) := by
          simp only [Bool.or_eq_false_iff, decide_eq_false_iff_not] at h
          exact fun hh => hh.elim h.1 h.2
        rw [if_neg h'] at hp
        rw [ej1]
        refine ⟨⟨j + 1, rfl, by omega, by omega, rfl, ?_⟩, by first | omega | (dsimp only; omega)⟩
        rw [← hp]
        congr 1
        rw [List.take_add_one, getD_some hjl, List.drop_append_of_le_length (by simp; omega)]
        rfl
    · refine ⟨by omega, by omega, by omega, _, rfl, H, Gh.refl _, ?_⟩
      refine k1 _ (t.drop j) ?_ j hj hij rfl
      rw [show (j : Int).toNat = j by omega, show (i : Int).toNat = i by omega, ← hp]
      by_cases hjl : j < t.length
      · rw [drop_cons hjl]
        rw [drop_cons hjl] at h
        simp only [pf]
        rw [if_pos]
        by_cases h44 : t.getD j 0 = 44
        · exact .inl h44
        · refine .inr fun he => ?_
          rw [decide_eq_true hjl, decide_eq_false h44, decide_eq_true he] at h
          cases h
      · have e0 : t.drop j = [] := List.drop_eq_nil_of_le (by omega)
        rw [e0]; rfl

theorem ref28_Read_ok {t : Str} {K : Sl → Int → Int → Heap → Prop} (hl : t.length ≤ 100000000) (k : ∀ r H2, Recs H H2 r (readC t).1 → K r ((readC t).2.1 : Int) (readC t).2.2 H2) : c_ref28_Read C t K H := by
  apply ad_ref28_Read
  unfold sh_ref28_Read
  refine ⟨fun x H' => ∃ (i : Nat) (l : List (List Str)), x.2 = (i : Int) ∧ i ≤ t.length ∧ H.le H' ∧ Outs H H' x.1 l Sl.nil [] ∧ l.length ≤ i ∧ runC ⟨0, false, l, [], []⟩ (t.drop i) = readC t, fun x _ => t.length - x.2.toNat, ⟨0, [], rfl, Nat.zero_le _, Heap.le.refl H, Outs.nil H H, Nat.zero_le _, rfl⟩, ?_⟩
  rintro ⟨so, x2⟩ H' ⟨i, l, hx, hi, hle, ho, hll, hrun⟩
  dsimp only at hx ho
  subst hx
  dsimp only
  have hsol : so.len = l.length := by obtain ⟨ss, h1, h2, _⟩ := ho.out; have := h1.len1; simp at this; omega
  refine ift.of (fun h => ?_) (fun h => ?_)
  rotate_left
  · have hie : i = t.length := by have := of_decide_eq_false h; omega
    rw [hie, List.drop_length] at hrun
    have hk := k so H'
    rw [← hrun] at hk
    exact hk ⟨hle, ho⟩
  have hlt : i < t.length := by have := of_decide_eq_true h; omega
  refine ⟨fun x H2 => ∃ (j : Nat) (cur : List Str) (op : Bool), x.1 = (j : Int) ∧ i ≤ j ∧ j ≤ t.length ∧ H.le H2 ∧ Outs H H2 so l x.2 cur ∧ cur.length ≤ j ∧ runC ⟨0, op, l, cur, []⟩ (t.drop j) = readC t ∧ (op = true ∨ t.drop j ≠ []) ∧ (j = i → t.drop j ≠ []), fun x _ => t.length - x.1.toNat, ⟨i, [], false, rfl, Nat.le_refl _, hi, hle, ho, Nat.zero_le _, hrun, .inr (by rw [drop_cons hlt]; simp), fun _ => by rw [drop_cons hlt]; simp⟩, ?_⟩
  rintro ⟨x1, sr⟩ H2 ⟨j, cur, op, hx, hij, hj, hle2, ho2, hcl, hrun2, hop, hji⟩
  dsimp only at hx ho2
  subst hx
  dsimp only
  rw [run_field _ _ _ _ hop] at hrun2
  refine field_ok hj hl (fun hf => ?_) fun f r hf j2 hj2 hjj hr => ?_
  · rw [hf] at hrun2
    refine ift_pos rfl ?_
    have hk := k Sl.nil H2
    rw [← hrun2] at hk
    rw [hsol]
    exact hk ⟨hle2, Outs.nil _ _⟩
  rw [hf] at hrun2
  dsimp only at hrun2
  refine ift_neg rfl ?_
  have hdom : Dom H H2 := fun x e hx => ⟨e, hle2 x e hx⟩
  refine ho2.field hdom (by omega) fun sr2 H3 ho3 hB => ?_
  have hle3 : H.le H3 := (Heap.le_off hle2 ho2.fr).trans hB
  have ej1 : w .i64 ((j2 : Int) + 1) = ((j2 + 1 : Nat) : Int) := w_i64 (by omega) (by omega)
  subst hr
  refine ⟨fun b H4 => H3 = H4 ∧ b = (decide (j2 < t.length) && decide (t.getD j2 0 = 44)), ?_, ?_⟩
  · refine ift.of (fun h => ?_) (fun h => ⟨rfl, ?_⟩)
    · have h : j2 < t.length := by have := of_decide_eq_true h; omega
      exact ⟨t.getD j2 0, by omega, getD_some h, rfl, by rw [e44, decide_eq_true h]; rfl⟩
    · have h : ¬ j2 < t.length := by have := of_decide_eq_false h; omega
      rw [decide_eq_false h]; rfl
  rintro _ _ ⟨rfl, rfl⟩
  refine ift.of (fun h => ?_) (fun h => ?_)
  · simp only [Bool.and_eq_true, decide_eq_true_eq] at h
    rw [drop_cons h.1] at hrun2
    simp only [behindC, if_pos h.2] at hrun2
    rw [ej1]
    exact ⟨⟨j2 + 1, cur ++ [f], true, rfl, by omega, by omega, hle3, ho3, by simp; omega, hrun2, .inl rfl, fun e => by omega⟩, by first | omega | (dsimp only; omega)⟩
  have hn44 : j2 < t.length → t.getD j2 0 ≠ 44 := fun hlt2 => by simpa [hlt2] using h
  refine ⟨fun b H4 => H3 = H4 ∧ b = (decide (j2 < t.length) && decide (endC (t.drop j2) = 0)), ?_, ?_⟩
  · refine ift.of (fun h => ?_) (fun h => ⟨rfl, ?_⟩)
    · have h : j2 < t.length := by have := of_decide_eq_true h; omega
      refine end_ok hj2 hl ⟨rfl, ?_⟩
      rw [decide_eq_true h, Bool.true_and, Bool.eq_iff_iff]; simp only [decide_eq_true_eq, beq_iff_eq]; omega
    · have h : ¬ j2 < t.length := by have := of_decide_eq_false h; omega
      rw [decide_eq_false h]; rfl
  rintro _ _ ⟨rfl, rfl⟩
  refine ift.of (fun h => ?_) (fun h => ?_)
  · simp only [Bool.and_eq_true, decide_eq_true_eq] at h
    have h2 := h.2
    rw [drop_cons h.1] at hrun2 h2
    simp only [behindC, if_neg (hn44 h.1), if_pos h2] at hrun2
    have hk := k Sl.nil H3
    rw [← hrun2] at hk
    rw [hsol]
    exact hk ⟨hle3, Outs.nil _ _⟩
  refine end_ok hj2 hl ?_
  have hdom3 : Dom H H3 := fun x e hx => ⟨e, hle3 x e hx⟩
  refine ho3.over hdom3 (by omega) fun so2 H4 ho4 hB4 => ?_
  have hle4 : H.le H4 := (Heap.le_off hle3 ho3.fo).trans hB4
  have hel := endC_le (t.drop j2)
  rw [List.length_drop] at hel
  have eje : w .i64 ((j2 : Int) + (endC (t.drop j2) : Int)) = ((j2 + endC (t.drop j2) : Nat) : Int) := by rw [w_i64 (by omega) (by omega)]; omega
  rw [eje]
  by_cases hlt2 : j2 < t.length
  · have he : endC (t.drop j2) ≠ 0 := by simpa [hlt2] using h
    have hn := hn44 hlt2
    have e5 : t.drop (j2 + endC (t.drop j2)) = (t.drop j2).drop (endC (t.drop j2)) := by rw [List.drop_drop]
    refine ⟨⟨j2 + endC (t.drop j2), l ++ [cur ++ [f]], rfl, by omega, hle4, ho4, by simp; omega, ?_⟩, by first | omega | (dsimp only; omega)⟩
    rw [e5]
    generalize hu : t.drop j2 = u at *
    rw [drop_cons hlt2] at hu
    subst hu
    simp only [behindC, if_neg hn, if_neg he] at hrun2
    exact hrun2
  · have hje : j2 = t.length := by omega
    have e0 : t.drop j2 = [] := List.drop_eq_nil_of_le (by omega)
    rw [e0] at hrun2 ⊢
    refine ⟨⟨j2, l ++ [cur ++ [f]], by simp [endC], hj2, hle4, ho4, by simp; omega, ?_⟩, by simp [endC]; omega⟩
    rw [e0, ← hrun2]
    rfl
end
end Sx
