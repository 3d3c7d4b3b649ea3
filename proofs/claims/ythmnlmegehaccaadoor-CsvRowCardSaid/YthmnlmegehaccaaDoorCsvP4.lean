/-
  What writes records: fields' own forms.
-/
import Derived.Test.YthmnlmegehaccaaDoorCsvP3
import Derived.Test.YthmnlmegehaccaaDoorCsvQ2
set_option linter.unusedVariables false
set_option linter.unusedSimpArgs false
set_option maxRecDepth 10000
namespace Sx
open Go Go.Proofs

theorem idxB_eq (s : Str) (c : UInt8) : idxB s (c.toNat : Int) = Lib.indexByte s c := by
  unfold idxB
  rw [Int.toNat_natCast]
  congr 1
  simp
theorem cntB_eq (s : Str) (c : UInt8) : cntB s (c.toNat : Int) = s.count c := by
  unfold cntB
  rw [Int.toNat_natCast]
  congr 1
  simp

/-- where a byte is first -/
theorem index_spec (c : UInt8) : ∀ s : Str, (Lib.indexByte s c = -1 ∧ c ∉ s) ∨ ∃ k : Nat, Lib.indexByte s c = (k : Int) ∧ k < s.length ∧ s[k]? = some c ∧ c ∉ s.take k
  | [] => .inl ⟨rfl, by simp⟩
  | b :: s => by
    unfold Lib.indexByte
    by_cases h : b = c
    · subst h
      exact .inr ⟨0, by simp, by simp, by simp, by simp⟩
    · have hb : (b == c) = false := by simpa using h
      rw [hb]
      rcases index_spec c s with ⟨h1, h2⟩ | ⟨k, h1, h2, h3, h4⟩
      · left
        rw [h1]
        refine ⟨by simp, by simp [h2, Ne.symm h]⟩
      · right
        refine ⟨k + 1, ?_, by simp; omega, by simpa using h3, by simp [h4, Ne.symm h]⟩
        rw [h1]
        have : ((k : Int) == -1) = false := by rw [beq_eq_false_iff_ne]; omega
        simp [this]

section
variable {C : Ctx} {H : Heap}

theorem sIndex_ok {s : Str} {c : UInt8} {K : Int → Heap → Prop} (k : K (Lib.indexByte s c) H) : c_strings_Index C s [c] K H := by
  apply ad_strings_Index
  unfold sh_strings_Index
  apply ad_internal_stringslite_Index
  unfold sh_internal_stringslite_Index
  refine ift.of (fun h => ?_) (fun h => ?_)
  · have hs : [c] = s := by simpa using h
    subst hs
    have : Lib.indexByte [c] c = 0 := by simp [Lib.indexByte]
    rw [this] at k; exact k
  · refine ift_pos rfl ⟨c, by omega, rfl, ?_⟩
    apply ad_internal_stringslite_IndexByte
    unfold sh_internal_stringslite_IndexByte
    rw [idxB_eq]; exact k

theorem sContains_ok {s : Str} {c : UInt8} {K : Bool → Heap → Prop} (k : K (decide (c ∈ s)) H) : c_strings_Contains C s [c] K H := by
  apply ad_strings_Contains
  unfold sh_strings_Contains
  refine sIndex_ok ?_
  have e : decide (Lib.indexByte s c ≥ 0) = decide (c ∈ s) := by
    rcases index_spec c s with ⟨h1, h2⟩ | ⟨k, h1, h2, h3, h4⟩
    · rw [h1, decide_eq_false h2]; rfl
    · have : c ∈ s := List.mem_of_getElem? h3
      rw [h1, decide_eq_true this, decide_eq_true (by omega)]
  rw [e]; exact k

theorem sCount_ok {s : Str} {c : UInt8} {K : Int → Heap → Prop} (k : K (s.count c : Int) H) : c_strings_Count C s [c] K H := by
  apply ad_strings_Count
  unfold sh_strings_Count
  refine ift_neg rfl (ift_pos rfl ⟨c, by omega, rfl, ?_⟩)
  dsimp only
  rw [cntB_eq]; exact k

theorem replace_ok {s : Str} {K : Str → Heap → Prop} (hl : s.length ≤ 100000000) (k : K (dq s) H) : c_strings_ReplaceAll C s [34] [34, 34] K H := by
  apply ad_strings_ReplaceAll
  unfold sh_strings_ReplaceAll
  apply c_strings_Replace.gh
  apply ad_strings_Replace
  unfold sh_strings_Replace
  refine ift_neg rfl ?_
  have hcl : s.count 34 ≤ s.length := List.count_le_length
  refine ⟨fun x H' => x = (s.count 34 : Int) ∧ H = H' ∧ s.count 34 ≠ 0, ?_, ?_⟩
  · refine sCount_ok ?_
    refine ift.of (fun h => ?_) (fun h => ?_)
    · have h0 : s.count 34 = 0 := by have : (s.count 34 : Int) = 0 := by simpa using h
                                     omega
      refine ⟨H, Gh.refl _, ?_⟩
      rw [dq_none (List.count_eq_zero.1 h0)] at k; exact k
    · exact ift_pos rfl ⟨rfl, rfl, fun e => by rw [e] at h; simp at h⟩
  rintro _ _ ⟨rfl, rfl, hc0⟩
  intro b hb
  have e1 : w .i64 ((s.length : Int) + w .i64 ((s.count 34 : Int) * w .i64 ((([34, 34] : Str).length : Int) - (([34] : Str).length : Int)))) = ((s.length + s.count 34 : Nat) : Int) := by
    have : w .i64 ((([34, 34] : Str).length : Int) - (([34] : Str).length : Int)) = 1 := w_i64 (x := 1) (by omega) (by omega)
    rw [this, Int.mul_one, w_i64 (x := (s.count 34 : Int)) (by omega) (by omega), w_i64 (by omega) (by omega)]; omega
  rw [e1]
  refine Grow_new (Heap.put_same ..) (by omega) ?_
  rw [Heap.put_put]
  refine ⟨fun x H' => ∃ i : Nat, x = (i : Int) ∧ i ≤ s.length ∧ H' = H.put b (Bd (dq (s.take i))) ∧ (34 : UInt8) ∉ s.drop i, ?_, ?_⟩
  · refine ift_pos rfl ?_
    refine ⟨fun x H' => ∃ i j : Nat, x = ((i : Int), (j : Int)) ∧ i ≤ s.length ∧ j ≤ s.count 34 ∧ H' = H.put b (Bd (dq (s.take i))) ∧ (s.drop i).count 34 = s.count 34 - j, fun x _ => s.count 34 - x.2.toNat, ⟨0, 0, rfl, Nat.zero_le _, Nat.zero_le _, rfl, rfl⟩, ?_⟩
    rintro _ H' ⟨i, j, rfl, hi, hj, rfl, hc⟩
    have hdl := dq_len (s.take i)
    have htl : (s.take i).length = i := by simp; omega
    refine ift.of (fun h => ?_) (fun h => ?_)
    · have hjl : j < s.count 34 := by have := of_decide_eq_true h; dsimp only at this; omega
      refine ⟨by dsimp only; omega, by dsimp only; omega, Int.le_refl _, _, rfl, ?_⟩
      dsimp only
      have ed : (s.take (s.length : Int).toNat).drop (i : Int).toNat = s.drop i := by simp
      rw [ed]
      refine sIndex_ok ?_
      rcases index_spec 34 (s.drop i) with ⟨h1, h2⟩ | ⟨m, h1, h2, h3, h4⟩
      · have := List.count_eq_zero.2 h2; omega
      rw [List.length_drop] at h2
      rw [h1]
      have e2 : w .i64 ((i : Int) + (m : Int)) = ((i + m : Nat) : Int) := by rw [w_i64 (by omega) (by omega)]; omega
      rw [e2]
      refine ⟨by omega, by omega, by omega, _, rfl, ?_⟩
      have ed2 : (s.take ((i + m : Nat) : Int).toNat).drop (i : Int).toNat = (s.drop i).take m := by
        rw [show ((i + m : Nat) : Int).toNat = i + m by omega, show (i : Int).toNat = i by omega, List.drop_take]; congr 1; omega
      rw [ed2]
      refine WriteString_ok IsB.put (by simp; omega) ?_
      rw [Heap.put_put]
      refine WriteString_ok IsB.put (by simp; omega) ?_
      rw [Heap.put_put]
      have e3 : w .i64 (((i + m : Nat) : Int) + (([34] : Str).length : Int)) = ((i + m + 1 : Nat) : Int) := by
        have : ((([34] : Str).length : Nat) : Int) = 1 := rfl
        rw [this, w_i64 (by omega) (by omega)]; omega
      rw [e3, w_i64 (x := (j : Int) + 1) (by omega) (by omega)]
      have hm34 : s[i + m]? = some 34 := by rw [List.getElem?_drop] at h3; exact h3
      have esp : s.drop i = (s.drop i).take m ++ 34 :: s.drop (i + m + 1) := by
        conv => lhs; rw [← List.take_append_drop m (s.drop i)]
        congr 1
        rw [List.drop_drop, List.drop_eq_getElem_cons (by omega)]
        congr 1
        have := (List.getElem?_eq_some_iff.1 hm34).2
        exact this
      refine ⟨⟨i + m + 1, j + 1, by simp, by omega, by omega, ?_, ?_⟩, by first | omega | (dsimp only; omega)⟩
      · congr 2
        have e4 : s.take (i + m + 1) = s.take i ++ ((s.drop i).take m ++ [34]) := by
          have : s.take (i + m + 1) = s.take i ++ (s.drop i).take (m + 1) := by rw [← List.take_add]; congr 1
          rw [this, List.take_add_one, h3]; rfl
        rw [e4, dq_append, dq_append, dq_none (s := (s.drop i).take m) h4, List.append_assoc]; rfl
      · rw [esp, List.count_append, List.count_cons_self, List.count_eq_zero.2 h4] at hc
        omega
    · have hje : j = s.count 34 := by have := of_decide_eq_false h; dsimp only at this; omega
      refine ⟨i, rfl, hi, rfl, List.count_eq_zero.1 ?_⟩
      omega
  · rintro _ H' ⟨i, rfl, hi, rfl, hno⟩
    have hdl := dq_len (s.take i)
    have htl : (s.take i).length = i := by simp; omega
    refine ⟨by omega, by omega, Int.le_refl _, _, rfl, ?_⟩
    have ed : (s.take (s.length : Int).toNat).drop (i : Int).toNat = s.drop i := by simp
    rw [ed]
    refine WriteString_ok IsB.put (by simp; omega) ?_
    have e5 : dq (s.take i) ++ s.drop i = dq s := by
      conv => rhs; rw [← List.take_append_drop i s]
      rw [dq_append, dq_none hno]
    rw [e5]
    have hdl2 := dq_len s
    refine String_ok IsB.put (by omega) ⟨H, Gh.le ?_, k⟩
    rw [Heap.put_put, Heap.put_put]; exact Heap.le_put hb

theorem any_spc (s : Str) : s.any spc = (decide ((34 : UInt8) ∈ s) || decide ((44 : UInt8) ∈ s) || decide ((10 : UInt8) ∈ s) || decide ((13 : UInt8) ∈ s)) := by
  induction s with
  | nil => rfl
  | cons c s ih =>
    rw [List.any_cons, ih, Bool.eq_iff_iff]
    simp only [spc, Bool.or_eq_true, beq_iff_eq, decide_eq_true_eq, List.mem_cons]
    constructor
    · rintro ((((rfl | rfl) | rfl) | rfl) | ((h | h) | h) | h) <;> simp_all
    · rintro (((h | h) | h) | h) <;> rcases h with h | h <;> simp_all

theorem csv_own_ok {s : Str} {K : Str → Heap → Prop} (hl : s.length ≤ 100000000) (k : K (ownS s) H) : c_csv_own C s K H := by
  apply ad_csv_own
  unfold sh_csv_own
  refine sContains_ok ?_
  refine ⟨fun b H' => H = H' ∧ b = (!decide ((34 : UInt8) ∈ s) && !decide ((44 : UInt8) ∈ s)), ?_, ?_⟩
  · refine ift.of (fun h => sContains_ok ⟨rfl, by rw [h]; rfl⟩) (fun h => ⟨rfl, by rw [h]; rfl⟩)
  rintro _ _ ⟨rfl, rfl⟩
  refine ⟨fun b H' => H = H' ∧ b = (!decide ((34 : UInt8) ∈ s) && !decide ((44 : UInt8) ∈ s) && !decide ((10 : UInt8) ∈ s)), ?_, ?_⟩
  · refine ift.of (fun h => sContains_ok ⟨rfl, by rw [h]; rfl⟩) (fun h => ⟨rfl, by rw [h]; rfl⟩)
  rintro _ _ ⟨rfl, rfl⟩
  refine ⟨fun b H' => H = H' ∧ b = !s.any spc, ?_, ?_⟩
  · refine ift.of (fun h => sContains_ok ⟨rfl, ?_⟩) (fun h => ⟨rfl, ?_⟩)
    · rw [any_spc]
      simp only [Bool.and_eq_true, Bool.not_eq_true'] at h
      rw [h.1.1, h.1.2, h.2]; rfl
    · rw [any_spc]
      cases h1 : decide ((34 : UInt8) ∈ s) <;> cases h2 : decide ((44 : UInt8) ∈ s) <;> cases h3 : decide ((10 : UInt8) ∈ s) <;> simp_all
  rintro _ _ ⟨rfl, rfl⟩
  unfold ownS at k
  refine ift.of (fun h => ?_) (fun h => ?_)
  · have h : s.any spc = false := by simpa using h
    rw [if_neg (by rw [h]; decide)] at k; exact k
  · have h : s.any spc = true := by simpa using h
    rw [if_pos h] at k
    refine replace_ok hl ?_
    have := dq_len s
    refine ⟨?_, ?_, k⟩
    · unfold catOk; simp; omega
    · unfold catOk; simp; omega

theorem any_take_succ {s : Str} {i : Nat} (h : i < s.length) (p : UInt8 → Bool) : (s.take (i + 1)).any p = ((s.take i).any p || p (s.getD i 0)) := by
  rw [List.take_add_one, getD_some h]; simp
theorem dq_take {s : Str} {i : Nat} (h : i < s.length) : dq (s.take (i + 1)) = dq (s.take i) ++ (if s.getD i 0 = 34 then [34, 34] else [s.getD i 0]) := by
  rw [List.take_add_one, getD_some h, Option.toList_some, dq_append]
  congr 1
  simp only [dq, List.flatMap_cons, List.flatMap_nil, List.append_nil]

theorem ref28_Own_ok {s : Str} {K : Str → Heap → Prop} (hl : s.length ≤ 100000000) (k : K (ownS s) H) : c_ref28_Own C s K H := by
  apply c_ref28_Own.gh
  apply ad_ref28_Own
  unfold sh_ref28_Own
  refine ⟨fun x H' => ∃ i : Nat, x = (!(s.take i).any spc, (i : Int)) ∧ i ≤ s.length ∧ H = H', fun x _ => s.length - x.2.toNat, ⟨0, rfl, Nat.zero_le _, rfl⟩, ?_⟩
  rintro _ _ ⟨i, rfl, hi, rfl⟩
  refine ift.of (fun h => ?_) (fun h => ?_)
  · have hlt : i < s.length := by have := of_decide_eq_true h; dsimp only at this; omega
    have hc : s[((i : Int)).toNat]? = some (s.getD i 0) := by simpa using getD_some hlt
    have hat := any_take_succ hlt spc
    generalize s.getD i 0 = c at *
    dsimp only
    refine ⟨fun b H' => H = H' ∧ b = (!(s.take i).any spc && !decide (c = 34)), ?_, ?_⟩
    · refine ift.of (fun h => ?_) (fun h => ⟨rfl, by rw [h]; rfl⟩)
      exact ⟨c, by omega, hc, rfl, by rw [n34, h]; rfl⟩
    rintro _ _ ⟨rfl, rfl⟩
    refine ⟨fun b H' => H = H' ∧ b = (!(s.take i).any spc && !decide (c = 34) && !decide (c = 44)), ?_, ?_⟩
    · refine ift.of (fun h => ?_) (fun h => ⟨rfl, by rw [h]; rfl⟩)
      exact ⟨c, by omega, hc, rfl, by rw [n44, h]; rfl⟩
    rintro _ _ ⟨rfl, rfl⟩
    refine ⟨fun b H' => H = H' ∧ b = (!(s.take i).any spc && !decide (c = 34) && !decide (c = 44) && !decide (c = 10)), ?_, ?_⟩
    · refine ift.of (fun h => ?_) (fun h => ⟨rfl, by rw [h]; rfl⟩)
      exact ⟨c, by omega, hc, rfl, by rw [n10, h]; rfl⟩
    rintro _ _ ⟨rfl, rfl⟩
    refine ⟨fun b H' => H = H' ∧ b = (!(s.take i).any spc && !decide (c = 34) && !decide (c = 44) && !decide (c = 10) && !decide (c = 13)), ?_, ?_⟩
    · refine ift.of (fun h => ?_) (fun h => ⟨rfl, by rw [h]; rfl⟩)
      exact ⟨c, by omega, hc, rfl, by rw [n13, h]; rfl⟩
    rintro _ _ ⟨rfl, rfl⟩
    rw [w_i64 (by omega) (by omega)]
    refine ⟨⟨i + 1, ?_, by omega, rfl⟩, by first | omega | (dsimp only; omega)⟩
    rw [hat]
    have e : (!((s.take i).any spc || spc c)) = (!(s.take i).any spc && !decide (c = 34) && !decide (c = 44) && !decide (c = 10) && !decide (c = 13)) := by
      unfold spc
      simp only [Bool.not_or, Bool.and_assoc]
      rfl
    rw [e]; simp
  · have hie : i = s.length := by have := of_decide_eq_false h; dsimp only at this; omega
    subst hie
    rw [List.take_length]
    unfold ownS at k
    dsimp only
    refine ift.of (fun h => ?_) (fun h => ?_)
    · have h : s.any spc = false := by simpa using h
      rw [if_neg (by rw [h]; decide)] at k; exact ⟨H, Gh.refl _, k⟩
    have h : s.any spc = true := by simpa using h
    rw [if_pos h] at k
    intro b hb
    refine ⟨fun x H' => ∃ i : Nat, x.2 = (i : Int) ∧ i ≤ s.length ∧ OwnF H H' 1 x.1 (bytesV ([34] ++ dq (s.take i))), fun x _ => s.length - x.2.toNat, ⟨0, rfl, Nat.zero_le _, ?_⟩, ?_⟩
    · exact ⟨Heap.le_put hb, ⟨rfl, rfl, Nat.le_refl _, .inr ⟨b, [], rfl, by rw [Heap.put_same]; rfl, by simp [bytesV]⟩⟩, fun p hp => by injection hp with hp; subst hp; exact hb⟩
    rintro ⟨x1, x2⟩ H' ⟨i, hx, hi, ho⟩
    dsimp only at hx ho
    subst hx
    have hxl := ho.lenB
    have hdl := dq_len (s.take i)
    have htl : (s.take i).length = i := by simp; omega
    have hxl2 : x1.len ≤ 2 * i + 1 := by rw [hxl]; simp; omega
    refine ift.of (fun h => ?_) (fun h => ?_)
    · have hlt : i < s.length := by have := of_decide_eq_true h; dsimp only at this; omega
      have hdt := dq_take hlt
      have hc : s[((i : Int)).toNat]? = some (s.getD i 0) := by simpa using getD_some hlt
      generalize s.getD i 0 = c at *
      refine ⟨fun r H2 => OwnF H H2 1 r (bytesV ([34] ++ dq (s.take i) ++ (if c = 34 then [34] else []))) ∧ r.len ≤ 2 * i + 2, ?_, ?_⟩
      · refine ⟨c, by first | omega | (dsimp only; omega), hc, ?_⟩
        dsimp only
        rw [e34]
        refine ift.of (fun h => ?_) (fun h => ?_)
        · refine apd_ownF (zc := [.int .u8 0]) ho rfl (by first | omega | (dsimp only; omega)) (by first | omega | (dsimp only; omega)) fun r H2 h3 hr => ?_
          rw [if_pos (of_decide_eq_true h)]
          exact ⟨by rw [bytesV_append]; exact h3, by omega⟩
        · rw [if_neg (of_decide_eq_false h), List.append_nil]
          exact ⟨ho, by first | omega | (dsimp only; omega)⟩
      · rintro r H2 ⟨h3, h4⟩
        refine ⟨c, by dsimp only; omega, hc, ?_⟩
        refine apd_ownF (zc := [.int .u8 0]) h3 rfl (by omega) (by omega) fun r2 H3 h5 hr => ?_
        dsimp only
        rw [w_i64 (by omega) (by omega)]
        refine ⟨⟨i + 1, rfl, by omega, ?_⟩, by omega⟩
        rw [hdt]
        have e : ([34] ++ (dq (s.take i) ++ if c = 34 then [34, 34] else [c]) : Str) = ([34] ++ dq (s.take i) ++ (if c = 34 then [34] else [])) ++ [c] := by
          split
          · rename_i h; rw [h]; simp
          · simp
        rw [e, bytesV_append]; exact h5
    · have hie : i = s.length := by have := of_decide_eq_false h; dsimp only at this; omega
      subst hie
      rw [List.take_length] at ho
      refine apd_ownF (zc := [.int .u8 0]) ho rfl (by first | omega | (dsimp only; omega)) (by first | omega | (dsimp only; omega)) fun r H2 h3 hr => ?_
      have h4 : OwnF H H2 1 r (bytesV ([34] ++ dq s ++ [34])) := by rw [bytesV_append]; exact h3
      exact b2s_of h4.own.rdsl h4.lenB ⟨H, Gh.le h4.le, k⟩
end
end Sx
