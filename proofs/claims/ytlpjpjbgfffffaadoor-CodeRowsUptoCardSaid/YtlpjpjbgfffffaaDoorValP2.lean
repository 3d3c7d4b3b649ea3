/-
  Go's texts; which values may be.
-/
import Derived.Test.YtlpjpjbgfffffaaDoorValP1
set_option linter.unusedVariables false
set_option linter.unusedSimpArgs false
set_option maxRecDepth 10000
namespace Sx
open Go Go.Proofs

theorem index_spec (c : UInt8) : ∀ s : Str, (Lib.indexByte s c = -1 ∧ c ∉ s) ∨ ∃ k : Nat, Lib.indexByte s c = (k : Int) ∧ ∃ a b, s = a ++ c :: b ∧ a.length = k ∧ c ∉ a
  | [] => .inl ⟨rfl, by simp⟩
  | b :: s => by
    unfold Lib.indexByte
    by_cases h : b = c
    · subst h
      exact .inr ⟨0, by simp, [], s, rfl, rfl, by simp⟩
    · have hb : (b == c) = false := by simpa using h
      rw [hb]
      rcases index_spec c s with ⟨h1, h2⟩ | ⟨k, h1, a, d, h2, h3, h4⟩
      · left
        rw [h1]
        refine ⟨by simp, by simp [h2, Ne.symm h]⟩
      · right
        refine ⟨k + 1, ?_, b :: a, d, by rw [h2]; rfl, by simp [h3], by simp [h4, Ne.symm h]⟩
        rw [h1]
        have : ((k : Int) == -1) = false := by rw [beq_eq_false_iff_ne]; omega
        simp [this]

def setD (cs : List Value) (l : Str) : List Value := l.foldl (fun cs c => cs.set c.toNat (.bool true)) cs
def setD0 : List Value := List.replicate 256 (.bool false)
def digS : Str := [48, 49, 50, 51, 52, 53, 54, 55, 56, 57]
theorem setD_len (l : Str) : ∀ cs, (setD cs l).length = cs.length := by
  induction l with
  | nil => intro cs; rfl
  | cons c l ih => intro cs; simp only [setD, List.foldl_cons] at ih ⊢; rw [ih]; simp
theorem setD_snoc (l : Str) (c : UInt8) (cs : List Value) : setD cs (l ++ [c]) = (setD cs l).set c.toNat (.bool true) := by simp [setD]
theorem setD_b (l : Str) : ∀ cs : List Value, cs.all Value.oneCell' = true → (setD cs l).all Value.oneCell' = true := by
  induction l with
  | nil => intro cs h; exact h
  | cons c l ih =>
    intro cs h
    simp only [setD, List.foldl_cons] at ih ⊢
    refine ih _ ?_
    rw [List.all_eq_true] at h ⊢
    intro x hx
    rcases List.mem_or_eq_of_mem_set hx with hx | rfl
    · exact h x hx
    · rfl
theorem setD_get : ∀ n : Nat, n < 256 → (match (setD setD0 digS)[n]? with | some (.bool b) => b == (decide (48 ≤ n) && decide (n ≤ 57)) | _ => false) = true := by decide +kernel
theorem setD_dig (c : UInt8) : (setD setD0 digS)[c.toNat]? = some (.bool (digC c)) := by
  have h := setD_get c.toNat c.toBitVec.isLt
  unfold digC
  generalize (setD setD0 digS)[c.toNat]? = o at *
  cases o with
  | none => simp at h
  | some v => cases v <;> simp at h ⊢; exact h

section
variable {C : Ctx} {H : Heap}

theorem hasPrefix_ok {s p : Str} {K : Bool → Heap → Prop} (k : K (p.isPrefixOf s) H) : c_internal_stringslite_HasPrefix C s p K H := by
  apply ad_internal_stringslite_HasPrefix
  unfold sh_internal_stringslite_HasPrefix
  refine ⟨fun b H' => H = H' ∧ b = p.isPrefixOf s, ?_, ?_⟩
  · refine ift.of (fun h => ?_) (fun h => ⟨rfl, ?_⟩)
    · have hl : p.length ≤ s.length := by have := of_decide_eq_true h; omega
      refine ⟨by omega, by omega, by omega, s.take p.length, by simp, rfl, ?_⟩
      rw [Bool.eq_iff_iff, List.isPrefixOf_iff_prefix, beq_iff_eq, List.prefix_iff_eq_take]
      exact ⟨fun h => h.symm, fun h => h.symm⟩
    · have hl := of_decide_eq_false h
      cases hh : p.isPrefixOf s with
      | false => rfl
      | true =>
        have := (List.isPrefixOf_iff_prefix.1 hh).length_le
        omega
  · rintro b _ ⟨rfl, rfl⟩
    exact k
theorem trimPrefix_ok {s p : Str} {K : Str → Heap → Prop} (k : K (if p.isPrefixOf s then s.drop p.length else s) H) : c_strings_TrimPrefix C s p K H := by
  apply ad_strings_TrimPrefix
  unfold sh_strings_TrimPrefix
  apply ad_internal_stringslite_TrimPrefix
  unfold sh_internal_stringslite_TrimPrefix
  refine hasPrefix_ok ?_
  refine ift.of (fun h => ?_) (fun h => ?_)
  · rw [if_pos h] at k
    have := (List.isPrefixOf_iff_prefix.1 h).length_le
    exact ⟨by omega, by omega, by omega, _, by simp, k⟩
  · rw [if_neg (by rw [h]; decide)] at k; exact k

theorem cutDot_ok {s : Str} {K : Str → Str → Bool → Heap → Prop} (hs : s.length ≤ 140737488355328) (k : match cutD s with | some (a, b) => K a b true H | none => K s [] false H) : c_strings_Cut C s [46] K H := by
  apply ad_strings_Cut
  unfold sh_strings_Cut
  apply ad_internal_stringslite_Cut
  unfold sh_internal_stringslite_Cut
  have key : ∀ {K : Int → Heap → Prop}, K (Lib.indexByte s 46) H → c_internal_stringslite_Index C s [46] K H := by
    intro K k
    apply ad_internal_stringslite_Index
    unfold sh_internal_stringslite_Index
    refine ift.of (fun h => ?_) (fun h => ?_)
    · have hs : [46] = s := by simpa using h
      subst hs
      exact k
    · refine ift_pos rfl ⟨46, by omega, rfl, ?_⟩
      apply ad_internal_stringslite_IndexByte
      unfold sh_internal_stringslite_IndexByte
      exact k
  refine key ?_
  rcases index_spec 46 s with ⟨h1, h2⟩ | ⟨i, h1, a, b, h2, h3, h4⟩
  · rw [h1]
    rw [cutD_no s h2] at k
    exact ift_neg rfl k
  · rw [h1]
    subst h2
    rw [cutD_at a b h4] at k
    subst h3
    simp only [List.length_append, List.length_cons] at hs
    refine ift_pos (by rw [decide_eq_true_eq]; omega) ?_
    refine ⟨by omega, by omega, by simp; omega, a, by simp, ?_⟩
    have e1 : (([46] : Str).length : Int) = 1 := rfl
    rw [e1, w_i64 (by omega) (by omega)]
    refine ⟨by omega, by simp; omega, by omega, b, ?_, k⟩
    have e2 : ((a.length : Int) + 1).toNat = a.length + 1 := by omega
    rw [List.take_of_length_le (by omega), e2, List.drop_append]
    simp

/-- the set of digits -/
def DSet (H : Heap) (b : Nat) : Prop := H b = some (true, .row (setD setD0 digS))
theorem contains_ok {b : Nat} {c : UInt8} {K : Bool → Heap → Prop} (h : DSet H b) (k : K (digC c) H) : c_strings_asciiSet_contains C (some (b, 0)) (c.toNat : Int) K H := by
  apply ad_strings_asciiSet_contains
  unfold sh_strings_asciiSet_contains
  refine ⟨(b, 0), rfl, by omega, by have := c.toBitVec.isLt; have : c.toNat < 256 := this; omega, digC c, ?_, k⟩
  rw [rd_row h]
  have := setD_dig c
  simpa using this
theorem trimR_ok {b : Nat} {s : Str} {K : Str → Heap → Prop} (hs : s.length ≤ 140737488355328) (h : DSet H b) (k : ∀ t, t.length ≤ s.length → t.all digC = s.all digC → K t H) : c_strings_trimRightASCII C s (some (b, 0)) K H := by
  apply ad_strings_trimRightASCII
  unfold sh_strings_trimRightASCII
  refine ⟨fun t H' => H = H' ∧ t.length ≤ s.length ∧ t.all digC = s.all digC, ?_, ?_⟩
  rotate_left
  · rintro t _ ⟨rfl, h1, h2⟩
    exact k t h1 h2
  refine ⟨fun t H' => H = H' ∧ t.length ≤ s.length ∧ t.all digC = s.all digC, fun t _ => t.length, ⟨rfl, Nat.le_refl _, rfl⟩, ?_⟩
  rintro t _ ⟨rfl, h1, h2⟩
  refine ift.of (fun hh => ?_) (fun hh => ⟨rfl, h1, h2⟩)
  have hl : 0 < t.length := by have := of_decide_eq_true hh; omega
  have hne := List.ne_nil_of_length_pos hl
  have hd : t.dropLast ++ [t.getLast hne] = t := List.dropLast_concat_getLast hne
  rw [w_i64 (by omega) (by omega)]
  refine ⟨t.getLast hne, by omega, getL hl rfl, ?_⟩
  refine contains_ok h ?_
  refine ift.of (fun hc => ⟨rfl, h1, h2⟩) (fun hc => ?_)
  have e1 : (t.take ((t.length : Int) - 1).toNat).drop (0 : Int).toNat = t.dropLast := by
    have : ((t.length : Int) - 1).toNat = t.length - 1 := by omega
    rw [this, List.dropLast_eq_take]; simp
  refine ⟨by omega, by omega, by omega, _, e1.symm, ?_⟩
  have hdl := List.length_dropLast (xs := t)
  refine ⟨⟨rfl, by omega, ?_⟩, by dsimp only; omega⟩
  rw [← h2]
  conv => rhs; rw [← hd]
  rw [List.all_append]
  simp at hc
  simp [hc]
theorem trimL_ok {b : Nat} {s : Str} {K : Str → Heap → Prop} (hs : s.length ≤ 140737488355328) (h : DSet H b) (k : ∀ t, t.all digC = s.all digC → (t = [] ∨ t.all digC = false) → K t H) : c_strings_trimLeftASCII C s (some (b, 0)) K H := by
  apply ad_strings_trimLeftASCII
  unfold sh_strings_trimLeftASCII
  refine ⟨fun t H' => H = H' ∧ t.all digC = s.all digC ∧ (t = [] ∨ t.all digC = false), ?_, ?_⟩
  rotate_left
  · rintro t _ ⟨rfl, h1, h2⟩
    exact k t h1 h2
  refine ⟨fun t H' => H = H' ∧ t.length ≤ s.length ∧ t.all digC = s.all digC, fun t _ => t.length, ⟨rfl, Nat.le_refl _, rfl⟩, ?_⟩
  rintro t _ ⟨rfl, h1, h2⟩
  cases t with
  | nil => exact ift_neg rfl ⟨rfl, h2, .inl rfl⟩
  | cons c t =>
    refine ift_pos (by rw [decide_eq_true_eq]; simp only [List.length_cons]; omega) ?_
    refine ⟨c, by omega, rfl, ?_⟩
    refine contains_ok h ?_
    refine ift.of (fun hc => ⟨rfl, h2, .inr ?_⟩) (fun hc => ?_)
    · simp at hc; simp [hc]
    · refine ⟨by omega, by simp only [List.length_cons]; omega, by omega, t, ?_, ⟨rfl, by simp only [List.length_cons] at h1; omega, ?_⟩, by simp⟩
      · rw [List.take_of_length_le (by omega)]; rfl
      · rw [← h2]; simp at hc; simp [hc]

theorem makeDigits_ok {K : List Value → Bool → Heap → Prop} (k : K (setD setD0 digS) true H) : c_strings_makeASCIISet C digS K H := by
  apply c_strings_makeASCIISet.gh
  apply ad_strings_makeASCIISet
  unfold sh_strings_makeASCIISet
  intro b n
  refine ⟨fun x H' => ∃ i : Nat, x = (i : Int) ∧ i ≤ 10 ∧ H' = H.put b (.row (setD setD0 (digS.take i))), fun x _ => 10 - x.toNat, ⟨0, rfl, by omega, rfl⟩, ?_⟩
  rintro x _ ⟨i, rfl, hi, rfl⟩
  have hlen : (setD setD0 (digS.take i)).length = 256 := by rw [setD_len]; simp [setD0]
  refine ift.of (fun h => ?_) (fun h => ?_)
  · have hlt : i < digS.length := by have := of_decide_eq_true h; omega
    have hlt' : i < 10 := hlt
    refine ⟨digS[i], by omega, getE hlt, ?_⟩
    have hm : ∀ c ∈ digS, c.toNat < 128 := by decide
    have h128 := hm _ (List.getElem_mem hlt)
    have htk : digS.take (i + 1) = digS.take i ++ [digS[i]] := by rw [List.take_add_one, List.getElem?_eq_getElem hlt]; rfl
    generalize digS[i] = c at *
    refine ift_neg (by rw [decide_eq_false_iff_not]; omega) ?_
    refine ⟨by omega, by omega, _, Heap.put_same .., by rw [hlen]; simp; omega, ?_⟩
    rw [w_i64 (by omega) (by omega), Heap.put_put]
    refine ⟨⟨i + 1, by omega, by omega, ?_⟩, by first | omega | (dsimp only; omega)⟩
    rw [htk, setD_snoc]
    have : (b, 0).2 + (c.toNat : Int).toNat * 1 = c.toNat := by simp
    rw [this]
  · have hi10 : i = 10 := by have := of_decide_eq_false h; have : digS.length = 10 := rfl; omega
    subst hi10
    have e : digS.take 10 = digS := rfl
    rw [e] at hlen ⊢
    have hr : ∀ {B : Heap}, B b = some (true, .row (setD setD0 digS)) → rds B (b, 0) (setD setD0 digS) := fun h => rds_row h fun j v hj => by simpa using hj
    refine ⟨_, hlen, hr (Heap.put_same ..), hlen, setD_b _ _ (by decide +kernel), _, Heap.put_same .., by simp, ?_⟩
    have esp : splice (setD setD0 digS) (b, 0).2 (setD setD0 digS) = setD setD0 digS := by
      unfold splice; simp
    rw [esp, Heap.put_put]
    exact ⟨_, hlen, hr (Heap.put_same ..), H, Gh.le (Heap.le_put n), k⟩

theorem trimDig_ok {s : Str} {K : Str → Heap → Prop} (hs : s.length ≤ 140737488355328) (k : ∀ t, (t = [] ↔ s.all digC = true) → K t H) : c_strings_Trim C s digS K H := by
  apply c_strings_Trim.gh
  apply ad_strings_Trim
  unfold sh_strings_Trim
  refine ift.of (fun h => ?_) (fun h => ?_)
  · have : s = [] := by simpa [digS] using h
    subst this
    exact ⟨H, Gh.refl _, k [] (by simp)⟩
  refine ⟨fun b H' => H = H' ∧ b = false, ift_neg rfl ⟨rfl, rfl⟩, ?_⟩
  rintro _ _ ⟨rfl, rfl⟩
  refine ift_neg rfl ?_
  refine makeDigits_ok ?_
  intro b n
  have hlen : (setD setD0 digS).length = 256 := by rw [setD_len]; simp [setD0]
  refine ⟨hlen, setD_b _ _ (by decide +kernel), _, Heap.put_same .., by rw [hlen]; simp, ?_⟩
  have esp : splice (List.replicate 256 (.bool false : Value)) (b, 0).2 (setD setD0 digS) = setD setD0 digS := by
    unfold splice; simp [hlen]
  rw [esp, Heap.put_put]
  refine ift_pos rfl ?_
  refine trimR_ok hs (Heap.put_same ..) fun t ht1 ht2 => ?_
  refine trimL_ok (by omega) (Heap.put_same ..) fun u hu1 hu2 => ?_
  refine ⟨H, Gh.le (Heap.le_put n), k u ?_⟩
  rw [← ht2, ← hu1]
  constructor
  · rintro rfl; rfl
  · intro h
    rcases hu2 with h2 | h2
    · exact h2
    · rw [h] at h2; cases h2

theorem value_number_ok {s : Str} {K : Int → Bool → Heap → Prop} (hs : s.length ≤ 140737488355328) (k : K (if numS s then (digits s : Int) else 0) (numS s) H) : c_value_number C s K H := by
  apply ad_value_number
  unfold sh_value_number
  refine trimPrefix_ok ?_
  have e : (if ([45] : Str).isPrefixOf s then s.drop ([45] : Str).length else s) = unmin s := by
    unfold unmin
    cases s with
    | nil => rfl
    | cons c t =>
      by_cases hc : c = 45
      · subst hc; simp [List.isPrefixOf]
      · simp [List.isPrefixOf, hc, Ne.symm hc]
  rw [e]
  have hul : (unmin s).length ≤ s.length := by unfold unmin; split <;> simp
  have hdg : digits s = (unmin s).length := rfl
  have hnu : numS s = (!(unmin s).isEmpty && (unmin s).all digC && !(decide ((unmin s).head? = some 48) && decide (s ≠ [48]))) := rfl
  rw [hdg, hnu] at k
  clear hdg hnu e
  generalize unmin s = d at *
  refine ⟨fun b H' => H = H' ∧ b = !(!d.isEmpty && d.all digC), ?_, ?_⟩
  · refine ift.of (fun h => ⟨rfl, ?_⟩) (fun h => ?_)
    · have : d = [] := by simpa using h
      subst this; rfl
    · have hne : d ≠ [] := by simpa using h
      refine trimDig_ok (by omega) fun t ht => ⟨rfl, ?_⟩
      have he : d.isEmpty = false := by cases d with
        | nil => exact absurd rfl hne
        | cons _ _ => rfl
      rw [he]
      cases hd : d.all digC with
      | true => rw [ht.2 hd]; rfl
      | false =>
        have : t ≠ [] := fun e => by rw [ht.1 e] at hd; cases hd
        simpa using this
  rintro b _ ⟨rfl, rfl⟩
  refine ⟨fun b H' => H = H' ∧ b = !(!d.isEmpty && d.all digC && !(decide (d.head? = some 48) && decide (s ≠ [48]))), ?_, ?_⟩
  · refine ift.of (fun h => ⟨rfl, ?_⟩) (fun h => ?_)
    · simp only [Bool.not_eq_true'] at h
      rw [h]; rfl
    · simp only [Bool.not_eq_false'] at h
      rw [h]
      cases d with
      | nil => simp at h
      | cons c t =>
        refine ⟨c, by omega, rfl, rfl, ?_⟩
        rw [e48]
        simp only [List.head?_cons, Option.some.injEq, Bool.true_and, Bool.not_not]
        congr 1
        rw [decide_not]; congr 1
        rw [Bool.eq_iff_iff]; simp
  rintro b _ ⟨rfl, rfl⟩
  refine ift.of (fun h => ?_) (fun h => ?_)
  · simp only [Bool.not_eq_true'] at h
    rw [h] at k; exact k
  · simp only [Bool.not_eq_false'] at h
    rw [h] at k; exact k
end
end Sx
