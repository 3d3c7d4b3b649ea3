/-
  Texts of this family, one behind the other: ValP1, ValP2, ValP3, ValP4, ValP5, ValR, ValW, CodeP1, CodeP2, CodeP3, CodeP4, CodeP5, CodeP6, CodeV1, CodeV2, CodeV3, CodeV4, CodeV5, CodeV6, CodeW1, CodeW2, CodeW3, CodeW4, CodeW5, CodeW6, CodeX1, CodeX2, CodeX3, CodeX4, CodeX5, CodeY1, CodeY2, CodeY3.
-/
import Derived.Test.YtlpjpjbgfffffaaDoorA3
set_option linter.unusedVariables false
set_option linter.unusedSimpArgs false
set_option maxRecDepth 10000
namespace Sx
open Go Go.Proofs
theorem u8eq (c : UInt8) (n : Nat) (hn : n < 256) : ((c.toNat : Int) == (n : Int)) = decide (c = UInt8.ofNat n) := by
  rw [Bool.eq_iff_iff]; simp only [decide_eq_true_eq, beq_iff_eq]
  constructor
  · intro h; exact UInt8.toNat_inj.1 (by rw [UInt8.toNat_ofNat']; omega)
  · rintro rfl; rw [UInt8.toNat_ofNat']; omega
theorem e48 (c : UInt8) : ((c.toNat : Int) == 48) = decide (c = 48) := u8eq c 48 (by omega)
theorem all_take {α : Type} {p : α → Bool} {s : List α} {i : Nat} (h : i < s.length) : (s.take (i + 1)).all p = ((s.take i).all p && p s[i]) := by
  rw [List.take_add_one, List.getElem?_eq_getElem h, Option.toList_some, List.all_append]; simp
theorem all_no {α : Type} {p : α → Bool} {s : List α} {x : α} (h : x ∈ s) (hp : p x = false) : s.all p = false := by
  rw [List.all_eq_false]; exact ⟨x, h, by simp [hp]⟩
theorem getE {s : Str} {i : Nat} (h : i < s.length) : s[((i : Nat) : Int).toNat]? = some s[i] := by simp [h]
theorem getL {s : Str} (h : 0 < s.length) {x : Int} (hx : x = (s.length : Int) - 1) : s[x.toNat]? = some (s.getLast (List.ne_nil_of_length_pos h)) := by
  subst hx
  have : ((s.length : Int) - 1).toNat = s.length - 1 := by omega
  rw [this, List.getElem?_eq_getElem (by omega), List.getLast_eq_getElem]

section
variable {C : Ctx} {H : Heap}
theorem value_name_ok {s : Str} {K : Bool → Heap → Prop} (hs : s.length ≤ 140737488355328) (k : K (nameS s) H) : c_value_name C s K H := by
  apply ad_value_name
  unfold sh_value_name
  refine ⟨fun b H' => H = H' ∧ b = (s.isEmpty || decide (s.length > 32) || decide ((s.headD 0).toNat < 97)), ?_, ?_⟩
  · refine ift.of (fun h => ⟨rfl, ?_⟩) (fun h => ?_)
    · simp only [Bool.or_eq_true, decide_eq_true_eq, beq_iff_eq] at h
      rcases h with rfl | h
      · rfl
      · have : decide (s.length > 32) = true := by rw [decide_eq_true_eq]; omega
        rw [this]; simp
    · cases s with
      | nil => simp at h
      | cons c t =>
        refine ⟨c, by omega, rfl, rfl, ?_⟩
        simp only [Bool.or_eq_false_iff, decide_eq_false_iff_not] at h
        have : decide ((c :: t).length > 32) = false := by rw [decide_eq_false_iff_not]; omega
        rw [this]
        simp only [List.isEmpty_cons, Bool.false_or, List.headD_cons]
        exact (decide_eq_decide.2 (by omega) : decide ((c.toNat : Int) < 97) = decide (c.toNat < 97))
  rintro b _ ⟨rfl, rfl⟩
  refine ⟨fun b H' => H = H' ∧ b = (s.isEmpty || decide (s.length > 32) || !lowC (s.headD 0)), ?_, ?_⟩
  · refine ift.of (fun h => ⟨rfl, ?_⟩) (fun h => ?_)
    · simp only [Bool.or_eq_true, decide_eq_true_eq] at h
      rcases h with (h | h) | h
      · rw [h]; rfl
      · have : decide (s.length > 32) = true := by rw [decide_eq_true_eq]; omega
        rw [this]; simp
      · have : lowC (s.headD 0) = false := by unfold lowC; rw [decide_eq_false (by omega)]; rfl
        rw [this]; simp
    · simp only [Bool.or_eq_false_iff, decide_eq_false_iff_not] at h
      cases s with
      | nil => simp at h
      | cons c t =>
        refine ⟨c, by omega, rfl, rfl, ?_⟩
        have : decide ((c :: t).length > 32) = false := by rw [decide_eq_false_iff_not]; omega
        rw [this]
        simp only [List.isEmpty_cons, Bool.false_or, List.headD_cons] at h ⊢
        unfold lowC
        rw [decide_eq_true (by omega : 97 ≤ c.toNat), Bool.true_and, ← decide_not, decide_eq_decide]; omega
  rintro b _ ⟨rfl, rfl⟩
  refine ift.of (fun h => ?_) (fun h => ?_)
  · have : nameS s = false := by
      unfold nameS
      simp only [Bool.or_eq_true, decide_eq_true_eq, Bool.not_eq_true'] at h
      rcases h with (h | h) | h
      · rw [h]; rfl
      · have : decide (s.length ≤ 32) = false := by rw [decide_eq_false_iff_not]; omega
        rw [this]; simp
      · rw [h]; simp
    rw [this] at k; exact k
  have hn : nameS s = s.all nameC := by
    unfold nameS
    simp only [Bool.or_eq_false_iff, decide_eq_false_iff_not, Bool.not_eq_false'] at h
    have : decide (s.length ≤ 32) = true := by rw [decide_eq_true_eq]; omega
    rw [h.1.1, this, h.2]; simp
  refine ⟨fun x H' => ∃ i : Nat, x = (i : Int) ∧ i ≤ s.length ∧ H = H' ∧ (s.take i).all nameC = true, fun x _ => s.length - x.toNat, ⟨0, rfl, Nat.zero_le _, rfl, rfl⟩, ?_⟩
  rintro x _ ⟨i, rfl, hi, rfl, ha⟩
  refine ift.of (fun h => ?_) (fun h => ?_)
  · have hlt : i < s.length := by have := of_decide_eq_true h; omega
    refine ⟨s[i], by omega, getE hlt, ?_⟩
    dsimp only
    have hm := List.getElem_mem hlt
    have hat := all_take (p := nameC) hlt
    generalize s[i] = c at *
    have e : (!(((((decide ((c.toNat : Int) ≥ 97)) && (decide ((c.toNat : Int) ≤ 122))) || ((decide ((c.toNat : Int) ≥ 65)) && (decide ((c.toNat : Int) ≤ 90)))) || ((decide ((c.toNat : Int) ≥ 48)) && (decide ((c.toNat : Int) ≤ 57)))) || ((c.toNat : Int) == 95))) = !nameC c := by
      unfold nameC lowC
      have h0 : decide ((c.toNat : Int) ≥ 97) = decide (97 ≤ c.toNat) := by rw [decide_eq_decide]; omega
      have h01 : decide ((c.toNat : Int) ≤ 122) = decide (c.toNat ≤ 122) := by rw [decide_eq_decide]; omega
      have h1 : decide ((c.toNat : Int) ≥ 65) = decide (65 ≤ c.toNat) := by rw [decide_eq_decide]; omega
      have h2 : decide ((c.toNat : Int) ≤ 90) = decide (c.toNat ≤ 90) := by rw [decide_eq_decide]; omega
      have h3 : decide ((c.toNat : Int) ≥ 48) = decide (48 ≤ c.toNat) := by rw [decide_eq_decide]; omega
      have h4 : decide ((c.toNat : Int) ≤ 57) = decide (c.toNat ≤ 57) := by rw [decide_eq_decide]; omega
      have h5 : ((c.toNat : Int) == 95) = decide (c.toNat = 95) := by
        rw [Bool.eq_iff_iff]; simp only [beq_iff_eq, decide_eq_true_eq]; omega
      rw [h0, h01, h1, h2, h3, h4, h5]
    rw [e]
    refine ift.of (fun h => ?_) (fun h => ?_)
    · rw [hn, all_no hm (by simpa using h)] at k; exact k
    · rw [w_i64 (by omega) (by omega)]
      refine ⟨⟨i + 1, by omega, by omega, rfl, ?_⟩, by first | omega | (dsimp only; omega)⟩
      rw [hat, ha]; simpa using h
  · have hie : i = s.length := by have := of_decide_eq_false h; omega
    rw [hie, List.take_length] at ha
    rw [hn, ha] at k; exact k

end
end Sx
set_option linter.unusedVariables false
set_option linter.unusedSimpArgs false
set_option maxRecDepth 10000
namespace Sx
open Go Go.Proofs
theorem index_spec (c : UInt8) : ∀ s : Str, (Lib.indexByte s c = -1 ∧ c ∉ s) ∨ ∃ k : Nat, Lib.indexByte s c = (k : Int) ∧ ∃ a b, s = a ++ c :: b ∧ a.length = k ∧ c ∉ a
  | [] => .inl ⟨rfl, by simp⟩
  | b :: s => by
    unfold Lib.indexByte
    by_cases h : b = c
    · subst h
      exact .inr ⟨0, by simp, [], s, rfl, rfl, by simp⟩
    · have hb : (b == c) = false := by simpa using h
      rw [hb]
      rcases index_spec c s with ⟨h1, h2⟩ | ⟨k, h1, a, d, h2, h3, h4⟩
      · left
        rw [h1]
        refine ⟨by simp, by simp [h2, Ne.symm h]⟩
      · right
        refine ⟨k + 1, ?_, b :: a, d, by rw [h2]; rfl, by simp [h3], by simp [h4, Ne.symm h]⟩
        rw [h1]
        have : ((k : Int) == -1) = false := by rw [beq_eq_false_iff_ne]; omega
        simp [this]

def setD (cs : List Value) (l : Str) : List Value := l.foldl (fun cs c => cs.set c.toNat (.bool true)) cs
def setD0 : List Value := List.replicate 256 (.bool false)
def digS : Str := [48, 49, 50, 51, 52, 53, 54, 55, 56, 57]
theorem setD_len (l : Str) : ∀ cs, (setD cs l).length = cs.length := by
  induction l with
  | nil => intro cs; rfl
  | cons c l ih => intro cs; simp only [setD, List.foldl_cons] at ih ⊢; rw [ih]; simp
theorem setD_snoc (l : Str) (c : UInt8) (cs : List Value) : setD cs (l ++ [c]) = (setD cs l).set c.toNat (.bool true) := by simp [setD]
theorem setD_b (l : Str) : ∀ cs : List Value, cs.all Value.oneCell' = true → (setD cs l).all Value.oneCell' = true := by
  induction l with
  | nil => intro cs h; exact h
  | cons c l ih =>
    intro cs h
    simp only [setD, List.foldl_cons] at ih ⊢
    refine ih _ ?_
    rw [List.all_eq_true] at h ⊢
    intro x hx
    rcases List.mem_or_eq_of_mem_set hx with hx | rfl
    · exact h x hx
    · rfl
theorem setD_get : ∀ n : Nat, n < 256 → (match (setD setD0 digS)[n]? with | some (.bool b) => b == (decide (48 ≤ n) && decide (n ≤ 57)) | _ => false) = true := by decide +kernel
theorem setD_dig (c : UInt8) : (setD setD0 digS)[c.toNat]? = some (.bool (digC c)) := by
  have h := setD_get c.toNat c.toBitVec.isLt
  unfold digC
  generalize (setD setD0 digS)[c.toNat]? = o at *
  cases o with
  | none => simp at h
  | some v => cases v <;> simp at h ⊢; exact h

section
variable {C : Ctx} {H : Heap}
theorem hasPrefix_ok {s p : Str} {K : Bool → Heap → Prop} (k : K (p.isPrefixOf s) H) : c_internal_stringslite_HasPrefix C s p K H := by
  apply ad_internal_stringslite_HasPrefix
  unfold sh_internal_stringslite_HasPrefix
  refine ⟨fun b H' => H = H' ∧ b = p.isPrefixOf s, ?_, ?_⟩
  · refine ift.of (fun h => ?_) (fun h => ⟨rfl, ?_⟩)
    · have hl : p.length ≤ s.length := by have := of_decide_eq_true h; omega
      refine ⟨by omega, by omega, by omega, s.take p.length, by simp, rfl, ?_⟩
      rw [Bool.eq_iff_iff, List.isPrefixOf_iff_prefix, beq_iff_eq, List.prefix_iff_eq_take]
      exact ⟨fun h => h.symm, fun h => h.symm⟩
    · have hl := of_decide_eq_false h
      cases hh : p.isPrefixOf s with
      | false => rfl
      | true =>
        have := (List.isPrefixOf_iff_prefix.1 hh).length_le
        omega
  · rintro b _ ⟨rfl, rfl⟩
    exact k
theorem trimPrefix_ok {s p : Str} {K : Str → Heap → Prop} (k : K (if p.isPrefixOf s then s.drop p.length else s) H) : c_strings_TrimPrefix C s p K H := by
  apply ad_strings_TrimPrefix
  unfold sh_strings_TrimPrefix
  apply ad_internal_stringslite_TrimPrefix
  unfold sh_internal_stringslite_TrimPrefix
  refine hasPrefix_ok ?_
  refine ift.of (fun h => ?_) (fun h => ?_)
  · rw [if_pos h] at k
    have := (List.isPrefixOf_iff_prefix.1 h).length_le
    exact ⟨by omega, by omega, by omega, _, by simp, k⟩
  · rw [if_neg (by rw [h]; decide)] at k; exact k

theorem cutDot_ok {s : Str} {K : Str → Str → Bool → Heap → Prop} (hs : s.length ≤ 140737488355328) (k : match cutD s with | some (a, b) => K a b true H | none => K s [] false H) : c_strings_Cut C s [46] K H := by
  apply ad_strings_Cut
  unfold sh_strings_Cut
  apply ad_internal_stringslite_Cut
  unfold sh_internal_stringslite_Cut
  have key : ∀ {K : Int → Heap → Prop}, K (Lib.indexByte s 46) H → c_internal_stringslite_Index C s [46] K H := by
    intro K k
    apply ad_internal_stringslite_Index
    unfold sh_internal_stringslite_Index
    refine ift.of (fun h => ?_) (fun h => ?_)
    · have hs : [46] = s := by simpa using h
      subst hs
      exact k
    · refine ift_pos rfl ⟨46, by omega, rfl, ?_⟩
      apply ad_internal_stringslite_IndexByte
      unfold sh_internal_stringslite_IndexByte
      exact k
  refine key ?_
  rcases index_spec 46 s with ⟨h1, h2⟩ | ⟨i, h1, a, b, h2, h3, h4⟩
  · rw [h1]
    rw [cutD_no s h2] at k
    exact ift_neg rfl k
  · rw [h1]
    subst h2
    rw [cutD_at a b h4] at k
    subst h3
    simp only [List.length_append, List.length_cons] at hs
    refine ift_pos (by rw [decide_eq_true_eq]; omega) ?_
    refine ⟨by omega, by omega, by simp; omega, a, by simp, ?_⟩
    have e1 : (([46] : Str).length : Int) = 1 := rfl
    rw [e1, w_i64 (by omega) (by omega)]
    refine ⟨by omega, by simp; omega, by omega, b, ?_, k⟩
    have e2 : ((a.length : Int) + 1).toNat = a.length + 1 := by omega
    rw [List.take_of_length_le (by omega), e2, List.drop_append]
    simp

/-- the set of digits -/
def DSet (H : Heap) (b : Nat) : Prop := H b = some (true, .row (setD setD0 digS))
theorem contains_ok {b : Nat} {c : UInt8} {K : Bool → Heap → Prop} (h : DSet H b) (k : K (digC c) H) : c_strings_asciiSet_contains C (some (b, 0)) (c.toNat : Int) K H := by
  apply ad_strings_asciiSet_contains
  unfold sh_strings_asciiSet_contains
  refine ⟨(b, 0), rfl, by omega, by have := c.toBitVec.isLt; have : c.toNat < 256 := this; omega, digC c, ?_, k⟩
  rw [rd_row h]
  have := setD_dig c
  simpa using this
theorem trimR_ok {b : Nat} {s : Str} {K : Str → Heap → Prop} (hs : s.length ≤ 140737488355328) (h : DSet H b) (k : ∀ t, t.length ≤ s.length → t.all digC = s.all digC → K t H) : c_strings_trimRightASCII C s (some (b, 0)) K H := by
  apply ad_strings_trimRightASCII
  unfold sh_strings_trimRightASCII
  refine ⟨fun t H' => H = H' ∧ t.length ≤ s.length ∧ t.all digC = s.all digC, ?_, ?_⟩
  rotate_left
  · rintro t _ ⟨rfl, h1, h2⟩
    exact k t h1 h2
  refine ⟨fun t H' => H = H' ∧ t.length ≤ s.length ∧ t.all digC = s.all digC, fun t _ => t.length, ⟨rfl, Nat.le_refl _, rfl⟩, ?_⟩
  rintro t _ ⟨rfl, h1, h2⟩
  refine ift.of (fun hh => ?_) (fun hh => ⟨rfl, h1, h2⟩)
  have hl : 0 < t.length := by have := of_decide_eq_true hh; omega
  have hne := List.ne_nil_of_length_pos hl
  have hd : t.dropLast ++ [t.getLast hne] = t := List.dropLast_concat_getLast hne
  rw [w_i64 (by omega) (by omega)]
  refine ⟨t.getLast hne, by omega, getL hl rfl, ?_⟩
  refine contains_ok h ?_
  refine ift.of (fun hc => ⟨rfl, h1, h2⟩) (fun hc => ?_)
  have e1 : (t.take ((t.length : Int) - 1).toNat).drop (0 : Int).toNat = t.dropLast := by
    have : ((t.length : Int) - 1).toNat = t.length - 1 := by omega
    rw [this, List.dropLast_eq_take]; simp
  refine ⟨by omega, by omega, by omega, _, e1.symm, ?_⟩
  have hdl := List.length_dropLast (xs := t)
  refine ⟨⟨rfl, by omega, ?_⟩, by dsimp only; omega⟩
  rw [← h2]
  conv => rhs; rw [← hd]
  rw [List.all_append]
  simp at hc
  simp [hc]
theorem trimL_ok {b : Nat} {s : Str} {K : Str → Heap → Prop} (hs : s.length ≤ 140737488355328) (h : DSet H b) (k : ∀ t, t.all digC = s.all digC → (t = [] ∨ t.all digC = false) → K t H) : c_strings_trimLeftASCII C s (some (b, 0)) K H := by
  apply ad_strings_trimLeftASCII
  unfold sh_strings_trimLeftASCII
  refine ⟨fun t H' => H = H' ∧ t.all digC = s.all digC ∧ (t = [] ∨ t.all digC = false), ?_, ?_⟩
  rotate_left
  · rintro t _ ⟨rfl, h1, h2⟩
    exact k t h1 h2
  refine ⟨fun t H' => H = H' ∧ t.length ≤ s.length ∧ t.all digC = s.all digC, fun t _ => t.length, ⟨rfl, Nat.le_refl _, rfl⟩, ?_⟩
  rintro t _ ⟨rfl, h1, h2⟩
  cases t with
  | nil => exact ift_neg rfl ⟨rfl, h2, .inl rfl⟩
  | cons c t =>
    refine ift_pos (by rw [decide_eq_true_eq]; simp only [List.length_cons]; omega) ?_
    refine ⟨c, by omega, rfl, ?_⟩
    refine contains_ok h ?_
    refine ift.of (fun hc => ⟨rfl, h2, .inr ?_⟩) (fun hc => ?_)
    · simp at hc; simp [hc]
    · refine ⟨by omega, by simp only [List.length_cons]; omega, by omega, t, ?_, ⟨rfl, by simp only [List.length_cons] at h1; omega, ?_⟩, by simp⟩
      · rw [List.take_of_length_le (by omega)]; rfl
      · rw [← h2]; simp at hc; simp [hc]

theorem makeDigits_ok {K : List Value → Bool → Heap → Prop} (k : K (setD setD0 digS) true H) : c_strings_makeASCIISet C digS K H := by
  apply c_strings_makeASCIISet.gh
  apply ad_strings_makeASCIISet
  unfold sh_strings_makeASCIISet
  intro b n
  refine ⟨fun x H' => ∃ i : Nat, x = (i : Int) ∧ i ≤ 10 ∧ H' = H.put b (.row (setD setD0 (digS.take i))), fun x _ => 10 - x.toNat, ⟨0, rfl, by omega, rfl⟩, ?_⟩
  rintro x _ ⟨i, rfl, hi, rfl⟩
  have hlen : (setD setD0 (digS.take i)).length = 256 := by rw [setD_len]; simp [setD0]
  refine ift.of (fun h => ?_) (fun h => ?_)
  · have hlt : i < digS.length := by have := of_decide_eq_true h; omega
    have hlt' : i < 10 := hlt
    refine ⟨digS[i], by omega, getE hlt, ?_⟩
    have hm : ∀ c ∈ digS, c.toNat < 128 := by decide
    have h128 := hm _ (List.getElem_mem hlt)
    have htk : digS.take (i + 1) = digS.take i ++ [digS[i]] := by rw [List.take_add_one, List.getElem?_eq_getElem hlt]; rfl
    generalize digS[i] = c at *
    refine ift_neg (by rw [decide_eq_false_iff_not]; omega) ?_
    refine ⟨by omega, by omega, _, Heap.put_same .., by rw [hlen]; simp; omega, ?_⟩
    rw [w_i64 (by omega) (by omega), Heap.put_put]
    refine ⟨⟨i + 1, by omega, by omega, ?_⟩, by first | omega | (dsimp only; omega)⟩
    rw [htk, setD_snoc]
    have : (b, 0).2 + (c.toNat : Int).toNat * 1 = c.toNat := by simp
    rw [this]
  · have hi10 : i = 10 := by have := of_decide_eq_false h; have : digS.length = 10 := rfl; omega
    subst hi10
    have e : digS.take 10 = digS := rfl
    rw [e] at hlen ⊢
    have hr : ∀ {B : Heap}, B b = some (true, .row (setD setD0 digS)) → rds B (b, 0) (setD setD0 digS) := fun h => rds_row h fun j v hj => by simpa using hj
    refine ⟨_, hlen, hr (Heap.put_same ..), hlen, setD_b _ _ (by decide +kernel), _, Heap.put_same .., by simp, ?_⟩
    have esp : splice (setD setD0 digS) (b, 0).2 (setD setD0 digS) = setD setD0 digS := by
      unfold splice; simp
    rw [esp, Heap.put_put]
    exact ⟨_, hlen, hr (Heap.put_same ..), H, Gh.le (Heap.le_put n), k⟩

theorem trimDig_ok {s : Str} {K : Str → Heap → Prop} (hs : s.length ≤ 140737488355328) (k : ∀ t, (t = [] ↔ s.all digC = true) → K t H) : c_strings_Trim C s digS K H := by
  apply c_strings_Trim.gh
  apply ad_strings_Trim
  unfold sh_strings_Trim
  refine ift.of (fun h => ?_) (fun h => ?_)
  · have : s = [] := by simpa [digS] using h
    subst this
    exact ⟨H, Gh.refl _, k [] (by simp)⟩
  refine ⟨fun b H' => H = H' ∧ b = false, ift_neg rfl ⟨rfl, rfl⟩, ?_⟩
  rintro _ _ ⟨rfl, rfl⟩
  refine ift_neg rfl ?_
  refine makeDigits_ok ?_
  intro b n
  have hlen : (setD setD0 digS).length = 256 := by rw [setD_len]; simp [setD0]
  refine ⟨hlen, setD_b _ _ (by decide +kernel), _, Heap.put_same .., by rw [hlen]; simp, ?_⟩
  have esp : splice (List.replicate 256 (.bool false : Value)) (b, 0).2 (setD setD0 digS) = setD setD0 digS := by
    unfold splice; simp [hlen]
  rw [esp, Heap.put_put]
  refine ift_pos rfl ?_
  refine trimR_ok hs (Heap.put_same ..) fun t ht1 ht2 => ?_
  refine trimL_ok (by omega) (Heap.put_same ..) fun u hu1 hu2 => ?_
  refine ⟨H, Gh.le (Heap.le_put n), k u ?_⟩
  rw [← ht2, ← hu1]
  constructor
  · rintro rfl; rfl
  · intro h
    rcases hu2 with h2 | h2
    · exact h2
    · rw [h] at h2; cases h2

theorem value_number_ok {s : Str} {K : Int → Bool → Heap → Prop} (hs : s.length ≤ 140737488355328) (k : K (if numS s then (digits s : Int) else 0) (numS s) H) : c_value_number C s K H := by
  apply ad_value_number
  unfold sh_value_number
  refine trimPrefix_ok ?_
  have e : (if ([45] : Str).isPrefixOf s then s.drop ([45] : Str).length else s) = unmin s := by
    unfold unmin
    cases s with
    | nil => rfl
    | cons c t =>
      by_cases hc : c = 45
      · subst hc; simp [List.isPrefixOf]
      · simp [List.isPrefixOf, hc, Ne.symm hc]
  rw [e]
  have hul : (unmin s).length ≤ s.length := by unfold unmin; split <;> simp
  have hdg : digits s = (unmin s).length := rfl
  have hnu : numS s = (!(unmin s).isEmpty && (unmin s).all digC && !(decide ((unmin s).head? = some 48) && decide (s ≠ [48]))) := rfl
  rw [hdg, hnu] at k
  clear hdg hnu e
  generalize unmin s = d at *
  refine ⟨fun b H' => H = H' ∧ b = !(!d.isEmpty && d.all digC), ?_, ?_⟩
  · refine ift.of (fun h => ⟨rfl, ?_⟩) (fun h => ?_)
    · have : d = [] := by simpa using h
      subst this; rfl
    · have hne : d ≠ [] := by simpa using h
      refine trimDig_ok (by omega) fun t ht => ⟨rfl, ?_⟩
      have he : d.isEmpty = false := by cases d with
        | nil => exact absurd rfl hne
        | cons _ _ => rfl
      rw [he]
      cases hd : d.all digC with
      | true => rw [ht.2 hd]; rfl
      | false =>
        have : t ≠ [] := fun e => by rw [ht.1 e] at hd; cases hd
        simpa using this
  rintro b _ ⟨rfl, rfl⟩
  refine ⟨fun b H' => H = H' ∧ b = !(!d.isEmpty && d.all digC && !(decide (d.head? = some 48) && decide (s ≠ [48]))), ?_, ?_⟩
  · refine ift.of (fun h => ⟨rfl, ?_⟩) (fun h => ?_)
    · simp only [Bool.not_eq_true'] at h
      rw [h]; rfl
    · simp only [Bool.not_eq_false'] at h
      rw [h]
      cases d with
      | nil => simp at h
      | cons c t =>
        refine ⟨c, by omega, rfl, rfl, ?_⟩
        rw [e48]
        simp only [List.head?_cons, Option.some.injEq, Bool.true_and, Bool.not_not]
        congr 1
        rw [decide_not]; congr 1
        rw [Bool.eq_iff_iff]; simp
  rintro b _ ⟨rfl, rfl⟩
  refine ift.of (fun h => ?_) (fun h => ?_)
  · simp only [Bool.not_eq_true'] at h
    rw [h] at k; exact k
  · simp only [Bool.not_eq_false'] at h
    rw [h] at k; exact k
end
end Sx
set_option linter.unusedVariables false
set_option linter.unusedSimpArgs false
set_option maxRecDepth 10000
namespace Sx
open Go Go.Proofs
section
variable {C : Ctx} {H : Heap}
theorem sEmpty {s : Str} : (s == ([] : Str)) = s.isEmpty := by cases s <;> rfl
theorem lenZ {l : List V} {n : Nat} (h : n = l.length) (m : Nat) : ((n : Int) == (m : Int)) = decide (l.length = m) := by
  rw [Bool.eq_iff_iff]; simp only [beq_iff_eq, decide_eq_true_eq]; omega

end
end Sx
set_option linter.unusedVariables false
set_option linter.unusedSimpArgs false
set_option maxRecDepth 10000
namespace Sx
open Go Go.Proofs
theorem names_cut (s : Str) : namesS s = (match cutD s with | some (a, b) => nameS a && nameS b | none => nameS s && !decide (s = trueS) && !decide (s = falseS)) := by
  unfold namesS
  by_cases ht : s = trueS
  · subst ht; rfl
  by_cases hf : s = falseS
  · subst hf; rfl
  rw [if_neg (fun h => h.elim ht hf)]
  cases hc : cutD s with
  | none => simp [ht, hf]
  | some p => rfl

section
variable {C : Ctx} {H : Heap}
theorem look_ok {v : V} {x : TV} {H : Heap} {K : Bool → Bool → Heap → Prop} (hv : VIs H v x) (hB : VB v) (k : ∀ g, (formV v = true → g = fitsV v) → K (formV v) g H) : c_value_item_look C x K H := by
  refine V.rec_ (P := fun v => ∀ {x H} {K : Bool → Bool → Heap → Prop}, VIs H v x → VB v → (∀ g, (formV v = true → g = fitsV v) → K (formV v) g H) → c_value_item_look C x K H) (fun v ih => ?_) v hv hB k
  clear hv hB k
  intro x H K hv hB k
  apply c_value_item_look.gh
  apply ad_value_item_look
  unfold sh_value_item_look
  intro b1 n1
  have hr := hv.row
  have hl := hr.len
  have hbl := hB.l
  have hbs := hB.s
  have hk := hv.kind
  have hn := hv.num
  have ht := hv.txt
  have hb1 : (H.put b1 (.row (T_api_Value.c x))) b1 = some (true, .row (T_api_Value.c x)) := Heap.put_same ..
  have hle1 := Heap.le_put n1 (g := .row (T_api_Value.c x)) (m := true)
  generalize H.put b1 (.row (T_api_Value.c x)) = H1 at *
  refine bxN hb1 ?_
  refine ⟨fun b H' => H1 = H', ?_, ?_⟩
  · exact ift.of (fun _ => bxS hb1 rfl) (fun _ => rfl)
  rintro _ _ rfl
  refine ⟨fun b H' => H1 = H', ?_, ?_⟩
  · exact ift.of (fun _ => bxL hb1 rfl) (fun _ => rfl)
  rintro _ _ rfl
  refine ⟨fun b H' => H1 = H' ∧ b.1 = okN v.k v.n v.s v.l.length ∧ (b.1 = true → b.2 = fitN v.k v.s v.l.length), ?_, ?_⟩
  rotate_left
  · rintro ⟨o, g⟩ _ ⟨rfl, ho, hg⟩
    dsimp only at ho hg ⊢
    subst ho
    refine bxL hb1 ?_
    refine ⟨fun y H' => ∃ i : Nat, y.2.2 = (i : Int) ∧ i ≤ v.l.length ∧ H.le H' ∧ y.1 = (okN v.k v.n v.s v.l.length && formVs (v.l.take i)) ∧ (y.1 = true → y.2.1 = (fitN v.k v.s v.l.length && fitsVs (v.l.take i))), fun y _ => v.l.length - y.2.2.toNat, ⟨0, rfl, Nat.zero_le _, hle1, by simp [formVs], fun h => by simp [fitsVs, hg h]⟩, ?_⟩
    rintro ⟨f, g', y⟩ H2 ⟨i, hy, hi, hle, h1, h2⟩
    dsimp only at hy h1 h2
    subst hy
    dsimp only
    rw [hl]
    refine ift.of (fun h => ?_) (fun h => ?_)
    · have hlt : i < v.l.length := by have := of_decide_eq_true h; omega
      have hmem := List.getElem_mem hlt
      refine hr.ld hle rfl hlt fun z hz => ?_
      intro b20 n20
      refine ⟨_, Heap.put_same .., by simp [T_api_Value.c], ?_⟩
      rw [Heap.put_put]
      have esp : splice (T_api_Value.c T_api_Value.zero) (b20, 0).2 (T_api_Value.c z) = T_api_Value.c z := rfl
      rw [esp]
      have hle2 := hle.trans (Heap.le_put n20 (g := .row (T_api_Value.c z)) (m := true))
      refine bxV (Heap.put_same ..) ?_
      refine ih _ hmem (hz.le hle2) (hB.at hlt) fun q hq => ?_
      rw [w_i64 (by omega) (by omega)]
      refine ⟨⟨i + 1, by omega, by omega, hle2, ?_, fun hh => ?_⟩, by first | omega | (dsimp only; omega)⟩
      · rw [h1, formVs_take hlt, Bool.and_assoc]
      · rw [Bool.and_eq_true] at hh
        rw [h2 hh.1, fitsVs_take hlt, hq hh.2, Bool.and_assoc]
    · have hie : i = v.l.length := by have := of_decide_eq_false h; omega
      subst hie
      rw [List.take_length] at h1 h2
      rw [← formV_eq] at h1
      rw [← fitsV_eq] at h2
      refine ⟨H, Gh.le hle, ?_⟩
      rw [h1] at h2 ⊢
      exact k g' h2
  refine bxK hb1 ?_
  rw [hk]
  refine ift.of (fun h => ?_) (fun h => ?_)
  · have h : v.k = 1 := by simpa using h
    have eo : okN v.k v.n v.s v.l.length = ((v.n == 0 || v.n == 1) && v.s.isEmpty && decide (v.l.length = 0)) := by rw [h]; rfl
    have ef : fitN v.k v.s v.l.length = true := by rw [h]; rfl
    rw [eo, ef]
    refine bxN hb1 ?_
    refine ⟨fun b H' => H1 = H' ∧ b = (v.n == 0 || v.n == 1), ?_, ?_⟩
    · rw [hn]
      refine ift.of (fun h => ⟨rfl, by rw [h]; rfl⟩) (fun h => ?_)
      refine bxN hb1 ⟨rfl, ?_⟩
      rw [h, hn]; rfl
    rintro _ _ ⟨rfl, rfl⟩
    refine ⟨fun b H' => H1 = H' ∧ b = ((v.n == 0 || v.n == 1) && v.s.isEmpty), ?_, ?_⟩
    · refine ift.of (fun h => ?_) (fun h => ⟨rfl, by rw [h]; rfl⟩)
      refine bxS hb1 ⟨rfl, ?_⟩
      rw [h, ht, sEmpty]; rfl
    rintro _ _ ⟨rfl, rfl⟩
    refine ⟨fun b H' => H1 = H' ∧ b = ((v.n == 0 || v.n == 1) && v.s.isEmpty && decide (v.l.length = 0)), ?_, ?_⟩
    · refine ift.of (fun h => ?_) (fun h => ⟨rfl, by rw [h]; rfl⟩)
      refine bxL hb1 ⟨rfl, ?_⟩
      rw [h]; exact lenZ hl 0
    rintro _ _ ⟨rfl, rfl⟩
    exact ⟨rfl, rfl, fun _ => rfl⟩
  have g1 : v.k ≠ 1 := by simpa using h
  refine ift.of (fun h => ?_) (fun h => ?_)
  · have h : v.k = 2 := by simpa using h
    have eo : okN v.k v.n v.s v.l.length = (v.s.isEmpty && decide (v.l.length = 0)) := by rw [h]; rfl
    have ef : fitN v.k v.s v.l.length = true := by rw [h]; rfl
    rw [eo, ef]
    refine bxS hb1 ?_
    refine ⟨fun b H' => H1 = H' ∧ b = (v.s.isEmpty && decide (v.l.length = 0)), ?_, ?_⟩
    · rw [ht, sEmpty]
      refine ift.of (fun h => ?_) (fun h => ⟨rfl, by rw [h]; rfl⟩)
      refine bxL hb1 ⟨rfl, ?_⟩
      rw [h]; exact lenZ hl 0
    rintro _ _ ⟨rfl, rfl⟩
    exact ⟨rfl, rfl, fun _ => rfl⟩
  have g2 : v.k ≠ 2 := by simpa using h
  refine ift.of (fun h => ?_) (fun h => ?_)
  · have h : v.k = 3 := by simpa using h
    have eo : okN v.k v.n v.s v.l.length = (numS v.s && v.n == 0 && decide (v.l.length = 0)) := by rw [h]; rfl
    have ef : fitN v.k v.s v.l.length = decide (digits v.s ≤ 200) := by rw [h]; rfl
    rw [eo, ef]
    refine bxS hb1 ?_
    rw [ht]
    refine value_number_ok hbs ?_
    refine ⟨fun b H' => H1 = H' ∧ b = (numS v.s && v.n == 0), ?_, ?_⟩
    · refine ift.of (fun h => ?_) (fun h => ⟨rfl, by rw [h]; rfl⟩)
      refine bxN hb1 ⟨rfl, ?_⟩
      rw [h, hn]; rfl
    rintro _ _ ⟨rfl, rfl⟩
    refine ⟨fun b H' => H1 = H' ∧ b = (numS v.s && v.n == 0 && decide (v.l.length = 0)), ?_, ?_⟩
    · refine ift.of (fun h => ?_) (fun h => ⟨rfl, by rw [h]; rfl⟩)
      refine bxL hb1 ⟨rfl, ?_⟩
      rw [h]; exact lenZ hl 0
    rintro _ _ ⟨rfl, rfl⟩
    refine ⟨rfl, rfl, fun hh => ?_⟩
    dsimp only at hh ⊢
    simp only [Bool.and_eq_true] at hh
    rw [hh.1.1, if_pos rfl, decide_eq_decide]; omega
  have g3 : v.k ≠ 3 := by simpa using h
  refine ift.of (fun h => ?_) (fun h => ?_)
  · have h : v.k = 4 := by simpa using h
    have eo : okN v.k v.n v.s v.l.length = (v.n == 0 && decide (v.l.length = 0)) := by rw [h]; rfl
    have ef : fitN v.k v.s v.l.length = decide (v.s.length ≤ 4096) := by rw [h]; rfl
    rw [eo, ef]
    have ed : decide ((v.s.length : Int) ≤ 4096) = decide (v.s.length ≤ 4096) := by rw [decide_eq_decide]; omega
    refine ⟨fun b H' => H1 = H' ∧ b = ((v.n == 0 && decide (v.l.length = 0)), decide (v.s.length ≤ 4096)), ?_, ?_⟩
    · refine ⟨H1, Heap.le.refl _, bxN hb1 (bxS hb1 ?_)⟩
      rw [hn, ht, ed]
      refine ift.of (fun h => ?_) (fun h => ⟨rfl, by rw [h]; rfl⟩)
      refine bxL hb1 ⟨rfl, ?_⟩
      rw [h, show ((x.L.len : Int) == 0) = decide (v.l.length = 0) from lenZ hl 0]; rfl
    rintro _ _ ⟨rfl, rfl⟩
    exact ⟨rfl, rfl, fun _ => rfl⟩
  have g4 : v.k ≠ 4 := by simpa using h
  refine ift.of (fun h => ?_) (fun h => ?_)
  · have h : v.k = 5 := by simpa using h
    have eo : okN v.k v.n v.s v.l.length = (v.n == 0 && v.s.isEmpty && decide (v.l.length ≠ 1)) := by rw [h]; rfl
    have ef : fitN v.k v.s v.l.length = decide (v.l.length ≤ 16) := by rw [h]; rfl
    rw [eo, ef]
    have ed : decide ((x.L.len : Int) ≤ 16) = decide (v.l.length ≤ 16) := by rw [decide_eq_decide]; omega
    refine ⟨fun b H' => H1 = H' ∧ b = ((v.n == 0 && v.s.isEmpty && decide (v.l.length ≠ 1)), decide (v.l.length ≤ 16)), ?_, ?_⟩
    · refine ⟨H1, Heap.le.refl _, bxN hb1 (bxL hb1 ?_)⟩
      rw [hn, ed]
      refine ift.of (fun h => ?_) (fun h => ⟨rfl, by rw [h]; rfl⟩)
      refine bxS hb1 ?_
      rw [ht, sEmpty]
      refine ift.of (fun h2 => ?_) (fun h2 => ⟨rfl, by rw [h2]; simp⟩)
      refine bxL hb1 ⟨rfl, ?_⟩
      rw [h, h2, bne, show ((x.L.len : Int) == 1) = decide (v.l.length = 1) from lenZ hl 1, decide_not]; rfl
    rintro _ _ ⟨rfl, rfl⟩
    exact ⟨rfl, rfl, fun _ => rfl⟩
  have g5 : v.k ≠ 5 := by simpa using h
  refine ift.of (fun h => ?_) (fun h => ?_)
  · have h : v.k = 6 := by simpa using h
    have eo : okN v.k v.n v.s v.l.length = (v.n == 0 && namesS v.s) := by rw [h]; rfl
    have ef : fitN v.k v.s v.l.length = decide (v.l.length ≤ 8) := by rw [h]; rfl
    rw [eo, ef]
    have ed : decide ((x.L.len : Int) ≤ 8) = decide (v.l.length ≤ 8) := by rw [decide_eq_decide]; omega
    refine bxS hb1 ?_
    rw [ht]
    refine cutDot_ok hbs ?_
    have key : ∀ (a b : Str) (two : Bool), a.length ≤ 140737488355328 → b.length ≤ 140737488355328 → namesS v.s = (if two then nameS a && nameS b else nameS a && !decide (v.s = trueS) && !decide (v.s = falseS)) →
        jn (α := Bool × Bool) (fun x118 H119 => H1 = H119 ∧ x118.1 = (v.n == 0 && namesS v.s) ∧ (x118.1 = true → x118.2 = decide (v.l.length ≤ 8)))
          (fun J117 => dr H1 fun Hs121 =>
          ldI Hs121 .i64 ((b1, 0).1, (b1, 0).2 + 1) fun x123 =>
          ldL Hs121 ((b1, 0).1, (b1, 0).2 + 3) fun x125 =>
          ift ((x123 : Int) == 0)
          (c_value_name C a (fun r129 H130 =>
          Heap.le Hs121 H130 ∧
          ift r129
          (ift two
          (c_value_name C b (fun r134 H135 =>
          Heap.le Hs121 H135 ∧
          ift r134
          (J117 (true, (decide (((Sl.len x125 : Int) : Int) ≤ 8))) H135)
          (ift (!two)
          (ldS Hs121 ((b1, 0).1, (b1, 0).2 + 2) fun x138 =>
          ift (!(x138 == ([116, 114, 117, 101] : Str)))
          (ldS Hs121 ((b1, 0).1, (b1, 0).2 + 2) fun x141 =>
          J117 ((!(x141 == ([102, 97, 108, 115, 101] : Str))), (decide (((Sl.len x125 : Int) : Int) ≤ 8))) H135)
          (J117 (false, (decide (((Sl.len x125 : Int) : Int) ≤ 8))) H135))
          (J117 (false, (decide (((Sl.len x125 : Int) : Int) ≤ 8))) H135))) H130)
          (ift (!two)
          (ldS Hs121 ((b1, 0).1, (b1, 0).2 + 2) fun x144 =>
          ift (!(x144 == ([116, 114, 117, 101] : Str)))
          (ldS Hs121 ((b1, 0).1, (b1, 0).2 + 2) fun x147 =>
          J117 ((!(x147 == ([102, 97, 108, 115, 101] : Str))), (decide (((Sl.len x125 : Int) : Int) ≤ 8))) H130)
          (J117 (false, (decide (((Sl.len x125 : Int) : Int) ≤ 8))) H130))
          (J117 (false, (decide (((Sl.len x125 : Int) : Int) ≤ 8))) H130)))
          (J117 (false, (decide (((Sl.len x125 : Int) : Int) ≤ 8))) H130)) H1)
          (J117 (false, (decide (((Sl.len x125 : Int) : Int) ≤ 8))) H1)) := by
      intro a b two ha hb hns
      refine ⟨fun y H' => H1 = H' ∧ y = ((v.n == 0 && namesS v.s), decide (v.l.length ≤ 8)), ?_, ?_⟩
      · refine ⟨H1, Heap.le.refl _, bxN hb1 (bxL hb1 ?_)⟩
        rw [hn, ed]
        refine ift.of (fun h => ?_) (fun h => ⟨rfl, by rw [h]; rfl⟩)
        refine value_name_ok ha ⟨Heap.le.refl _, ?_⟩
        rw [h, hns]
        refine ift.of (fun h2 => ?_) (fun h2 => ⟨rfl, by rw [h2]; cases two <;> rfl⟩)
        rw [h2]
        have eq : ∀ t : Str, (v.s == t) = decide (v.s = t) := fun t => by rw [Bool.eq_iff_iff]; simp
        cases two with
        | true =>
          refine ift_pos rfl ?_
          refine value_name_ok hb ⟨Heap.le.refl _, ?_⟩
          exact ift.of (fun h3 => ⟨rfl, by rw [h3]; rfl⟩) (fun h3 => ift_neg rfl ⟨rfl, by rw [h3]; rfl⟩)
        | false =>
          refine ift_neg rfl (ift_pos rfl ?_)
          refine bxS hb1 ?_
          rw [ht, show (v.s == ([116, 114, 117, 101] : Str)) = decide (v.s = trueS) from eq _]
          refine ift.of (fun h3 => ?_) (fun h3 => ⟨rfl, ?_⟩)
          · refine bxS hb1 ⟨rfl, ?_⟩
            rw [ht, show (v.s == ([102, 97, 108, 115, 101] : Str)) = decide (v.s = falseS) from eq _, h3]; rfl
          · rw [h3]; rfl
      · rintro _ _ ⟨rfl, rfl⟩
        exact ⟨rfl, rfl, fun _ => rfl⟩
    have hc := names_cut v.s
    cases hcd : cutD v.s with
    | none =>
      rw [hcd] at hc
      exact key _ _ _ hbs (by simp) hc
    | some p =>
      obtain ⟨a, b⟩ := p
      rw [hcd] at hc
      have hlen : a.length ≤ v.s.length ∧ b.length ≤ v.s.length := by
        by_cases hm : (46 : UInt8) ∈ v.s
        · obtain ⟨a', b', e1, e2⟩ := cutD_mem _ hm
          have := cutD_at a' b' e2
          rw [← e1, hcd] at this
          injection this with this; injection this with h1 h2
          subst h1; subst h2
          rw [e1]; simp; omega
        · rw [cutD_no _ hm] at hcd; cases hcd
      exact key _ _ _ (by omega) (by omega) hc
  have g6 : v.k ≠ 6 := by simpa using h
  have eo : okN v.k v.n v.s v.l.length = false := by unfold okN; rw [if_neg g1, if_neg g2, if_neg g3, if_neg g4, if_neg g5, if_neg g6]
  rw [eo]
  exact ⟨rfl, rfl, fun hh => by cases hh⟩

theorem value_Check_ok {v : V} {x : TV} {H : Heap} {K : Int → Heap → Prop} (hv : VIs H v x) (hB : VB v) (k : K (checkV v) H) : c_value_Check C x K H := by
  apply c_value_Check.gh
  apply ad_value_Check
  unfold sh_value_Check
  intro b1 n1
  have hb1 : (H.put b1 (.row (T_api_Value.c x))) b1 = some (true, .row (T_api_Value.c x)) := Heap.put_same ..
  have hle1 := Heap.le_put n1 (g := .row (T_api_Value.c x)) (m := true)
  generalize H.put b1 (.row (T_api_Value.c x)) = H1 at *
  unfold checkV at k
  refine bxV hb1 (value_depth_ok (m := 65) (hv.le hle1) hB (by omega) fun r h0 h1 h2 => ?_)
  refine ift.of (fun h => ?_) (fun h => ?_)
  · have h := of_decide_eq_true h
    rw [if_pos (by omega)] at k
    exact ⟨H, Gh.le hle1, k⟩
  have h := of_decide_eq_false h
  rw [if_neg (by omega)] at k
  refine bxV hb1 (look_ok (hv.le hle1) hB fun g hg => ?_)
  refine ift.of (fun h => ?_) (fun h => ?_)
  · have h : formV v = false := by simpa using h
    rw [if_pos h] at k
    exact ⟨H, Gh.le hle1, k⟩
  have hf : formV v = true := by simpa using h
  rw [if_neg (by rw [hf]; decide)] at k
  rw [hg hf]
  refine ift.of (fun h => ?_) (fun h => ?_)
  · have h : fitsV v = false := by simpa using h
    rw [if_pos h] at k
    exact ⟨H, Gh.le hle1, k⟩
  have hf : fitsV v = true := by simpa using h
  rw [if_neg (by rw [hf]; decide)] at k
  exact ⟨H, Gh.le hle1, k⟩
end
end Sx
set_option linter.unusedVariables false
set_option linter.unusedSimpArgs false
set_option maxRecDepth 10000
namespace Sx
open Go Go.Proofs
section
variable {C : Ctx} {H : Heap}
theorem mayV_dec (v : V) : ((checkV v : Int) == 0) = mayV v := by unfold mayV; rw [Bool.eq_iff_iff]; simp
theorem sameVs_len : ∀ {l m : List V}, sameVs l m = true → l.length = m.length
  | [], [], _ => rfl
  | [], _ :: _, h => by simp [sameVs] at h
  | _ :: _, [], h => by simp [sameVs] at h
  | v :: l, w :: m, h => by
    simp only [sameVs, Bool.and_eq_true] at h
    have := sameVs_len h.2
    simp [this]
theorem SameRow_gen {l m : List V} {s t : Sl} {H : Heap} {K : Bool → Heap → Prop} (hs : VRow H s l) (ht : VRow H t m) (hl : l.length ≤ 140737488355328)
    (ih : ∀ v ∈ l, ∀ w, ∀ {x y : TV} {K : Bool → Heap → Prop}, VIs H v x → VIs H w y → w ∈ m → K (sameV v w) H → c_ref02_Same C x y K H) (k : K (sameVs l m) H) : c_ref02_SameRow C s t K H := by
  apply ad_ref02_SameRow
  unfold sh_ref02_SameRow
  rw [hs.len, ht.len]
  by_cases hlm : l.length = m.length
  rotate_left
  · refine ift_pos (by simp; omega) ?_
    cases hh : sameVs l m with
    | true => exact absurd (sameVs_len hh) hlm
    | false => rw [hh] at k; exact k
  refine ift_neg (by simp; omega) ?_
  refine ⟨fun x H' => ∃ i : Nat, x = (i : Int) ∧ i ≤ l.length ∧ H = H' ∧ sameVs l m = sameVs (l.drop i) (m.drop i), fun x _ => l.length - x.toNat, ⟨0, rfl, Nat.zero_le _, rfl, rfl⟩, ?_⟩
  rintro x _ ⟨i, rfl, hi, rfl, ha⟩
  refine ift.of (fun h => ?_) (fun h => ?_)
  · have h1 : i < l.length := by have := of_decide_eq_true h; omega
    have h2 : i < m.length := by omega
    have m1 := List.getElem_mem h1
    have m2 := List.getElem_mem h2
    rw [List.drop_eq_getElem_cons h1, List.drop_eq_getElem_cons h2] at ha
    simp only [sameVs] at ha
    refine ⟨H, Heap.le.refl _, ?_⟩
    refine hs.ld (Heap.le.refl _) rfl h1 fun y hy => ?_
    refine ht.ld (Heap.le.refl _) rfl h2 fun z hz => ?_
    refine ih _ m1 _ hy hz m2 ⟨Heap.le.refl _, ?_⟩
    refine ift.of (fun h => ?_) (fun h => ?_)
    · have h : sameV l[i] m[i] = false := by simpa using h
      rw [ha, h] at k; exact k
    · have h : sameV l[i] m[i] = true := by simpa using h
      rw [h, Bool.true_and] at ha
      rw [w_i64 (by omega) (by omega)]
      exact ⟨⟨i + 1, by omega, by omega, rfl, ha⟩, by first | omega | (dsimp only; omega)⟩
  · have hie : i = l.length := by have := of_decide_eq_false h; omega
    rw [hie, List.drop_length, hlm, List.drop_length] at ha
    rw [ha] at k; exact k

theorem sameV_eqn (v w : V) : sameV v w = (v.k == w.k && v.n == w.n && decide (v.s = w.s) && sameVs v.l w.l) := by
  obtain ⟨k, n, s, l⟩ := v
  obtain ⟨k', n', s', l'⟩ := w
  simp only [sameV, V.k, V.n, V.s, V.l]
  rfl

theorem Same_ok {v w : V} {x y : TV} {H : Heap} {K : Bool → Heap → Prop} (hv : VIs H v x) (hw : VIs H w y) (hB : VB v) (k : K (sameV v w) H) : c_ref02_Same C x y K H := by
  refine V.rec_ (P := fun v => ∀ {w x y H} {K : Bool → Heap → Prop}, VIs H v x → VIs H w y → VB v → K (sameV v w) H → c_ref02_Same C x y K H) (fun v ih => ?_) v hv hw hB k
  clear hv hw hB k
  intro w x y H K hv hw hB k
  apply c_ref02_Same.gh
  apply ad_ref02_Same
  unfold sh_ref02_Same
  intro b1 n1 b3 n3
  have hb3 : ((H.put b1 (.row (T_api_Value.c x))).put b3 (.row (T_api_Value.c y))) b3 = some (true, .row (T_api_Value.c y)) := Heap.put_same ..
  have hne : b1 ≠ b3 := fun e => by rw [e, Heap.put_same] at n3; cases n3
  have hb1 : ((H.put b1 (.row (T_api_Value.c x))).put b3 (.row (T_api_Value.c y))) b1 = some (true, .row (T_api_Value.c x)) := by rw [Heap.put_ne _ _ _ hne, Heap.put_same]
  have hle := (Heap.le_put n1 (g := .row (T_api_Value.c x)) (m := true)).trans (Heap.le_put n3 (g := .row (T_api_Value.c y)) (m := true))
  generalize (H.put b1 (.row (T_api_Value.c x))).put b3 (.row (T_api_Value.c y)) = H1 at *
  have k' : ∃ H0, Gh C H1 H0 ∧ K (sameV v w) H0 := ⟨H, Gh.le hle, k⟩
  rw [sameV_eqn] at k'
  refine bxK hb1 (bxK hb3 ?_)
  rw [hv.kind, hw.kind]
  refine ⟨fun b H' => H1 = H' ∧ b = (v.k == w.k && v.n == w.n), ?_, ?_⟩
  · refine ift.of (fun h => ?_) (fun h => ⟨rfl, by rw [h]; rfl⟩)
    refine bxN hb1 (bxN hb3 ⟨rfl, ?_⟩)
    rw [h, hv.num, hw.num]; rfl
  rintro _ _ ⟨rfl, rfl⟩
  refine ⟨fun b H' => H1 = H' ∧ b = (v.k == w.k && v.n == w.n && decide (v.s = w.s)), ?_, ?_⟩
  · refine ift.of (fun h => ?_) (fun h => ⟨rfl, by rw [h]; rfl⟩)
    refine bxS hb1 (bxS hb3 ⟨rfl, ?_⟩)
    rw [h, hv.txt, hw.txt, Bool.true_and, Bool.eq_iff_iff]; simp
  rintro _ _ ⟨rfl, rfl⟩
  refine ⟨fun b H' => H1 = H' ∧ b = (v.k == w.k && v.n == w.n && decide (v.s = w.s) && sameVs v.l w.l), ?_, ?_⟩
  · refine ift.of (fun h => ?_) (fun h => ⟨rfl, by rw [h]; rfl⟩)
    refine bxL hb1 (bxL hb3 ?_)
    refine SameRow_gen (hv.row.le hle) (hw.row.le hle) hB.l (fun p hp q {x' y'} {K'} hx hy _ kk => ih p hp hx hy (hB.ls.mem hp) kk) ⟨rfl, ?_⟩
    rw [h]; rfl
  rintro _ _ ⟨rfl, rfl⟩
  exact k'
end
end Sx
set_option linter.unusedVariables false
set_option linter.unusedSimpArgs false
namespace Sx
open Go
section
variable {H : Type} {enc : TypeId × Value → H} {P : Program} {W : World}
/-- the type of values -/
structure ValT (P : Program) (t tl : TypeId) : Prop where
  st : ∃ fs : Array Field, P.underlying t = some (.struct fs) ∧ fs.size = 4 ∧ (∃ f tk, fs[0]? = some f ∧ f.type = tk ∧ f.offset = 0 ∧ P.underlying tk = some (.int .u8) ∧ P.cellsOf tk = 1) ∧ (∃ f tk, fs[1]? = some f ∧ f.type = tk ∧ f.offset = 1 ∧ P.underlying tk = some (.int .i64) ∧ P.cellsOf tk = 1) ∧ (∃ f tk, fs[2]? = some f ∧ f.type = tk ∧ f.offset = 2 ∧ P.underlying tk = some .string ∧ P.cellsOf tk = 1) ∧ (∃ f, fs[3]? = some f ∧ f.type = tl ∧ f.offset = 3 ∧ P.cellsOf tl = 1)
  cells : P.cellsOf t = 4
  sl : P.underlying tl = some (.slice t)

end
end Sx
set_option linter.unusedVariables false
set_option linter.unusedSimpArgs false
namespace Sx
open Go
section
variable {H : Type} {enc : TypeId × Value → H} {P : Program} {W : World}
theorem bytesw_of {m : Nat} {e : TypeId} {s : Sl} {css : List (List Value)} (he : P.underlying e = some (.int .u8)) (hl : css.length = s.len) (hr : rdsl (heapOf W) s css.flatten) (h : ∀ c ∈ css, c.length = 1 ∧ TrW P W m e c) :
    ∃ l : Str, rdsl (heapOf W) s (bytesV l) ∧ s.len = l.length := by
  have : ∃ l : Str, css.flatten = bytesV l ∧ l.length = css.length := by
    clear hl hr
    induction css with
    | nil => exact ⟨[], rfl, rfl⟩
    | cons c css ih =>
      obtain ⟨l, h1, h2⟩ := ih fun c hc => h c (List.mem_cons_of_mem _ hc)
      obtain ⟨x, hx, hw⟩ := (h c (List.mem_cons_self ..)).2.int he
      have hr : 0 ≤ x ∧ x ≤ 255 := by simpa [Lit.wf, IntKind.min, IntKind.max, IntKind.signed, IntKind.bits] using hw
      refine ⟨UInt8.ofNat x.toNat :: l, ?_, by simp [h2]⟩
      have hxx : x = ((UInt8.ofNat x.toNat).toNat : Int) := by rw [UInt8.toNat_ofNat']; omega
      rw [List.flatten_cons, h1, hx]
      simp only [bytesV, List.map_cons, List.cons_append, List.nil_append]
      rw [← hxx]
  obtain ⟨l, h1, h2⟩ := this
  exact ⟨l, by rw [← h1]; exact hr, by omega⟩

end
end Sx
set_option linter.unusedVariables false
set_option maxRecDepth 10000
namespace Sx
open Go Go.Proofs
/-- a pen at b, over H0: it holds bs, and turns by t -/
structure PenF (H0 H : Heap) (b : Nat) (bs : Str) (t : UInt8) : Prop where
  le : H0.le H
  nb : H0 b = none
  row : ∃ s : Sl, H b = some (true, .row [slv s, .int .u8 (t.toNat : Int)]) ∧ Own H 1 s (bytesV bs) ∧ Fresh H0 s ∧ ∀ p, s.p = some p → p.1 ≠ b

theorem PenF.down {H1 H0 H : Heap} {b : Nat} {bs : Str} {t : UInt8} (h : PenF H0 H b bs t) (hle : H1.le H0) : PenF H1 H b bs t :=
  ⟨hle.trans h.le, hle.none h.nb, by obtain ⟨s, h1, h2, h3, h4⟩ := h.row; exact ⟨s, h1, h2, h3.le hle, h4⟩⟩

/-- a new block beside it -/
theorem PenF.beside {H0 H : Heap} {b b2 : Nat} {bs : Str} {t : UInt8} {g : GO} {m : Bool} (h : PenF H0 H b bs t) (hn : H b2 = none) : PenF (H0.put b2 g m) (H.put b2 g m) b bs t := by
  obtain ⟨s, h1, h2, h3, h4⟩ := h.row
  have hbb : b ≠ b2 := fun e => by subst e; rw [h1] at hn; cases hn
  refine ⟨h.le.puts _ _ _, by rw [Heap.put_ne _ _ _ hbb]; exact h.nb, s, by rw [Heap.put_ne _ _ _ hbb]; exact h1, h2.le (Heap.le_put hn), fun p hp => ?_, h4⟩
  have hne : p.1 ≠ b2 := fun e => by
    obtain ⟨g', hg⟩ := h2.mine hp
    rw [e, hn] at hg; cases hg
  rw [Heap.put_ne _ _ _ hne]; exact h3 p hp

theorem clone_ok {C : Ctx} {H : Heap} {s : Sl} {a : Str} {K : Sl → Heap → Prop} (hr : rdsl H s (bytesV a)) (hl : s.len = a.length) (hm : a.length ≤ 140737488355328) (hnil : s.p = none → a = []) (k : ∀ r H2, OwnF H H2 1 r (bytesV a) → K r H2) : c_slices_Clone_byte_byte C s K H := by
  apply ad_slices_Clone_byte_byte
  unfold sh_slices_Clone_byte_byte
  refine ift.of (fun h => ?_) (fun h => ?_)
  · have : a = [] := hnil (by simpa [Sl.isNil] using h)
    subst this
    exact k _ _ (OwnF.nil H 1)
  · intro b hb
    refine apS_bytes (a := []) (ownF_empty hb) (rdsl_le (Heap.le_put hb) hr) hl (by simpa using hm) fun r H2 h2 _ => ?_
    exact k r H2 h2

theorem rdsl_nil {H : Heap} {s : Sl} {a : Str} (hr : rdsl H s (bytesV a)) : s.p = none → a = [] := fun h => by
  rcases hr with hr | ⟨_, p, hp, _⟩
  · simpa [bytesV] using hr
  · rw [h] at hp; cases hp

theorem code_behind_ok {C : Ctx} {H : Heap} {s : Sl} {a : Str} {K : Option (Nat × Nat) → Heap → Prop} (hr : rdsl H s (bytesV a)) (hl : s.len = a.length) (hm : a.length ≤ 140737488355328)
    (k : ∀ b H2, PenF H H2 b a 0 → K (some (b, 0)) H2) : c_code_behind C s K H := by
  apply ad_code_behind
  unfold sh_code_behind
  refine clone_ok hr hl hm (rdsl_nil hr) fun r H2 h2 => ?_
  intro b hb
  refine k b _ ⟨h2.le.trans (Heap.le_put hb), h2.le.none hb, r, Heap.put_same .., h2.own.le (Heap.le_put hb), h2.fresh, fun p hp e => ?_⟩
  obtain ⟨g, hg⟩ := h2.own.mine hp
  rw [e, hb] at hg; cases hg

theorem take_snoc_map {s : Str} {i : Nat} (t : UInt8) (h : i < s.length) : (s.take (i + 1)).map (· ^^^ t) = (s.take i).map (· ^^^ t) ++ [s.getD i 0 ^^^ t] := by
  rw [List.take_add_one, getD_some h]; simp

theorem pen_put_ok {C : Ctx} {H0 H : Heap} {b : Nat} {bs cs : Str} {t : UInt8} {l : Sl} {K : Heap → Prop} (h : PenF H0 H b bs t) (hr : rdsl H0 l (bytesV cs)) (hl : l.len = cs.length) (hm : bs.length + cs.length ≤ 140737488355328)
    (k : ∀ H2, PenF H0 H2 b (bs ++ cs.map (· ^^^ t)) t → K H2) : c_code_pen_put C (some (b, 0)) l K H := by
  apply ad_code_pen_put
  unfold sh_code_pen_put
  refine ⟨fun x H' => ∃ i : Nat, x = (i : Int) ∧ i ≤ cs.length ∧ PenF H0 H' b (bs ++ (cs.take i).map (· ^^^ t)) t, fun x _ => cs.length - x.toNat, ⟨0, rfl, Nat.zero_le _, by simpa using h⟩, ?_⟩
  rintro x H' ⟨i, rfl, hi, hp⟩
  refine ift.of (fun hc => ?_) (fun hc => ?_)
  · have hlt : i < cs.length := by simp at hc; omega
    refine ix_ldI (rdsl_le hp.le hr) (j := i) rfl (by omega) (bytes_at hlt) ?_
    obtain ⟨s, h1, h2, h3, h4⟩ := hp.row
    have hsl : s.len = bs.length + i := by have := h2.1; simp [bytesV] at this; omega
    refine ⟨H0.put b (.row [slv s, .int .u8 (t.toNat : Int)]), fun x e hx => ?_, _, rfl, s, by rw [rd_same]; rfl, _, rfl, (t.toNat : Int), by rw [rd_same]; rfl, ?_⟩
    · by_cases hxb : x = b
      · subst hxb; rw [Heap.put_same] at hx; rw [← hx]; exact h1
      · rw [Heap.put_ne _ _ _ hxb] at hx; exact hp.le _ _ hx
    have hle : (H0.put b (.row [slv s, .int .u8 (t.toNat : Int)])).le H' := fun x e hx => by
      by_cases hxb : x = b
      · subst hxb; rw [Heap.put_same] at hx; rw [← hx]; exact h1
      · rw [Heap.put_ne _ _ _ hxb] at hx; exact hp.le _ _ hx
    dsimp only
    rw [xor_u8]
    intro b2 hb2
    refine ⟨hle.trans (Heap.le_put hb2), ?_⟩
    have hown : OwnF (H0.put b (.row [slv s, .int .u8 (t.toNat : Int)])) (H'.put b2 (.row [.int .u8 ((cs.getD i 0 ^^^ t).toNat : Int)])) 1 s (bytesV (bs ++ (cs.take i).map (· ^^^ t))) :=
      ⟨hle.trans (Heap.le_put hb2), h2.le (Heap.le_put hb2), fun p hpp => by rw [Heap.put_ne _ _ _ (h4 p hpp)]; exact h3 p hpp⟩
    refine apS_bytes hown (c := [cs.getD i 0 ^^^ t]) (lit_bytes (s := [cs.getD i 0 ^^^ t]) rfl) rfl (by simp; omega) fun r H3 h5 h6 => ?_
    refine ⟨h5.le, _, rfl, _, h5.le _ _ (Heap.put_same ..), by simp, ?_⟩
    rw [w_i64 (by omega) (by omega)]
    refine ⟨⟨i + 1, by omega, by omega, ?_⟩, by simp; omega⟩
    have hrb : ∀ p, r.p = some p → p.1 ≠ b := fun p hpp e => by have := h5.fresh p hpp; rw [e, Heap.put_same] at this; cases this
    refine ⟨fun x e hx => ?_, hp.nb, r, by rw [Heap.put_same]; rfl, ?_, fun p hpp => ?_, hrb⟩
    · have hxb : x ≠ b := fun e' => by subst e'; rw [hp.nb] at hx; cases hx
      rw [Heap.put_ne _ _ _ hxb]; exact h5.le _ _ (by rw [Heap.put_ne _ _ _ hxb]; exact hx)
    · rw [take_snoc_map t hlt, ← List.append_assoc]
      exact h5.own.but (Heap.but.put _ _ _ _) hrb
    · have := h5.fresh p hpp
      rwa [Heap.put_ne _ _ _ (hrb p hpp)] at this
  · have : i = cs.length := by simp at hc; omega
    subst this
    rw [List.take_length] at hp
    exact k _ hp

/-- bytes that are written out -/
theorem pen_put_lit {C : Ctx} {H0 H : Heap} {b : Nat} {bs cs : Str} {vs : List Value} {t : UInt8} {m : Nat} {K : Heap → Prop} (h : PenF H0 H b bs t) (hv : vs = bytesV cs) (hm0 : m = cs.length) (hm : bs.length + cs.length ≤ 140737488355328)
    (k : ∀ H2, PenF H0 H2 b (bs ++ cs.map (· ^^^ t)) t → K H2) : nw vs (fun b2 H2 => c_code_pen_put C (some (b, 0)) (Sl.of (some (b2, 0)) m m) K H2) H := by
  intro b2 hb2
  subst hm0
  refine pen_put_ok (h.beside hb2) (lit_bytes hv) rfl hm fun H2 h2 => k H2 (h2.down (Heap.le_put (h.le.none hb2)))

theorem pen_flip_ok {C : Ctx} {H0 H : Heap} {b : Nat} {bs : Str} {t : UInt8} {is : Bool} {K : Heap → Prop} (h : PenF H0 H b bs t) (k : ∀ H2, PenF H0 H2 b bs (if is then t ^^^ 255 else t) → K H2) : c_code_pen_flip C (some (b, 0)) is K H := by
  apply ad_code_pen_flip
  unfold sh_code_pen_flip
  cases is with
  | false => exact ift_neg rfl (k H (by simpa using h))
  | true =>
    obtain ⟨s, h1, h2, h3, h4⟩ := h.row
    refine ift_pos rfl ⟨_, rfl, _, by rw [rd_row h1]; rfl, _, rfl, _, h1, by simp, ?_⟩
    have e : bXor .u8 (t.toNat : Int) 255 = ((t ^^^ 255).toNat : Int) := xor_u8 t 255
    rw [e]
    refine k _ ⟨fun x e hx => ?_, h.nb, s, by rw [Heap.put_same]; rfl, h2.but (Heap.but.put _ _ _ _) h4, h3, h4⟩
    have hxb : x ≠ b := fun e' => by subst e'; rw [h.nb] at hx; cases hx
    rw [Heap.put_ne _ _ _ hxb]; exact h.le _ _ hx

def bl (x : Nat) : Nat := if x = 0 then 0 else Nat.log2 x + 1
theorem bl_lt (x : Nat) : x < 2 ^ bl x := by
  unfold bl
  split
  · subst_vars; decide
  · exact Nat.lt_log2_self
theorem bl_le {x : Nat} (h : x ≠ 0) : 2 ^ (bl x - 1) ≤ x := by
  unfold bl
  rw [if_neg h]
  simpa using Nat.log2_self_le h
theorem bl_of {x n : Nat} (h0 : x < 2 ^ n) (h1 : x ≠ 0 → 2 ^ (n - 1) ≤ x) (h2 : x = 0 → n = 0) : bl x = n := by
  by_cases hx : x = 0
  · rw [h2 hx, hx]; rfl
  · have a := bl_lt x
    have b := bl_le hx
    have c := h1 hx
    have p1 : bl x - 1 < n := (Nat.pow_lt_pow_iff_right (by omega : 1 < 2)).1 (Nat.lt_of_le_of_lt b h0)
    have p2 : n - 1 < bl x := (Nat.pow_lt_pow_iff_right (by omega : 1 < 2)).1 (Nat.lt_of_le_of_lt c a)
    have hb : 0 < bl x := by unfold bl; rw [if_neg hx]; omega
    have hn : 0 < n := by
      rcases Nat.eq_zero_or_pos n with h | h
      · subst h; omega
      · exact h
    omega
theorem bl_shift {x k : Nat} (h : 2 ^ k ≤ x) : bl (x / 2 ^ k) + k = bl x := by
  have hpos : 0 < 2 ^ k := Nat.two_pow_pos k
  have hx : x ≠ 0 := by omega
  have hy : x / 2 ^ k ≠ 0 := by have := Nat.div_pos h hpos; omega
  refine (bl_of (x := x) ?_ (fun _ => ?_) (fun e => absurd e hx)).symm
  · rw [Nat.pow_add]
    have := bl_lt (x / 2 ^ k)
    exact (Nat.div_lt_iff_lt_mul hpos).1 this
  · have h1 := bl_le hy
    have hb : 0 < bl (x / 2 ^ k) := by unfold bl; rw [if_neg hy]; omega
    have e : bl (x / 2 ^ k) + k - 1 = (bl (x / 2 ^ k) - 1) + k := by omega
    rw [e, Nat.pow_add]
    exact (Nat.le_div_iff_mul_le hpos).1 h1
theorem bl_le_of {x n : Nat} (h : x < 2 ^ n) : bl x ≤ n := by
  by_cases hx : x = 0
  · subst hx; simp [bl]
  · have := bl_le hx
    have p := (Nat.pow_lt_pow_iff_right (by omega : 1 < 2)).1 (Nat.lt_of_le_of_lt this h)
    omega

theorem sShr_u64 (n k : Nat) (hk : k ≤ 64) : sShr .u64 (n : Int) (k : Int) = ((n / 2 ^ k : Nat) : Int) := by
  unfold sShr
  have hm : min ((k : Int)).toNat IntKind.u64.bits = k := by simp only [Int.toNat_natCast]; show min k 64 = k; omega
  rw [hm, Int.fdiv_eq_ediv_of_nonneg _ (by exact_mod_cast Nat.zero_le _)]
  norm_cast

def len8 : Str := [0, 1, 2, 2, 3, 3, 3, 3, 4, 4, 4, 4, 4, 4, 4, 4] ++ List.replicate 16 5 ++ List.replicate 32 6 ++ List.replicate 64 7 ++ List.replicate 128 8
theorem len8_ok : ∀ i : Fin 256, len8[i.val]? = some (UInt8.ofNat (bl i.val)) := by decide +kernel

theorem len64_ok {C : Ctx} {H : Heap} {x : Nat} {K : Int → Heap → Prop} (hx : x < 18446744073709551616) (k : K (bl x : Int) H) : c_math_bits_Len64 C (x : Int) K H := by
  apply ad_math_bits_Len64
  unfold sh_math_bits_Len64
  have step : ∀ (s : Nat) (y n : Nat) (J : (Int × Int) → Heap → Prop) (B : Int), B = (2 ^ s : Nat) → s ≤ 32 → y < 18446744073709551616 → n ≤ 56 → bl y + n = bl x →
      (∀ y' n', (y' < 2 ^ s ∨ (y' = y / 2 ^ s ∧ 2 ^ s ≤ y)) → n' ≤ n + s → bl y' + n' = bl x → J ((y' : Int), (n' : Int)) H) →
      ift (decide ((y : Int) ≥ B)) (J ((sShr .u64 (y : Int) (s : Int)), w .i64 ((n : Int) + (s : Int))) H) (J ((y : Int), (n : Int)) H) := by
    intro s y n J B hB hs hy hn he hJ
    subst hB
    refine ift.of (fun h => ?_) (fun h => ?_)
    · have h' : 2 ^ s ≤ y := by have := of_decide_eq_true h; omega
      rw [sShr_u64 y s (by omega), w_i64 (by omega) (by omega)]
      have := hJ (y / 2 ^ s) (n + s) (.inr ⟨rfl, h'⟩) (Nat.le_refl _) (by have := bl_shift h'; omega)
      simpa using this
    · have h' : y < 2 ^ s := by have := of_decide_eq_false h; omega
      exact hJ y n (.inl h') (by omega) he
  refine ⟨fun p H' => ∃ y n : Nat, p = ((y : Int), (n : Int)) ∧ H = H' ∧ y < 4294967296 ∧ n ≤ 32 ∧ bl y + n = bl x, ?_, ?_⟩
  · have := step 32 x 0 (fun p H' => ∃ y n : Nat, p = ((y : Int), (n : Int)) ∧ H = H' ∧ y < 4294967296 ∧ n ≤ 32 ∧ bl y + n = bl x) 4294967296 rfl (by omega) hx (by omega) (by omega) (fun y' n' h1 h2 h3 => ⟨y', n', rfl, rfl, by rcases h1 with h1 | ⟨h1, _⟩ <;> omega, by omega, h3⟩)
    have e : w .i64 ((0 : Nat) + (32 : Nat) : Int) = 32 := w_i64 (by omega) (by omega)
    rw [e] at this
    exact this
  rintro _ _ ⟨y, n, rfl, rfl, hy, hn, he⟩
  refine ⟨fun p H' => ∃ y n : Nat, p = ((y : Int), (n : Int)) ∧ H = H' ∧ y < 65536 ∧ n ≤ 48 ∧ bl y + n = bl x, ?_, ?_⟩
  · exact step 16 y n (fun p H' => ∃ y n : Nat, p = ((y : Int), (n : Int)) ∧ H = H' ∧ y < 65536 ∧ n ≤ 48 ∧ bl y + n = bl x) 65536 rfl (by omega) (by omega) (by omega) he (fun y' n' h1 h2 h3 => ⟨y', n', rfl, rfl, by rcases h1 with h1 | ⟨h1, _⟩ <;> omega, by omega, h3⟩)
  rintro _ _ ⟨y, n, rfl, rfl, hy, hn, he⟩
  refine ⟨fun p H' => ∃ y n : Nat, p = ((y : Int), (n : Int)) ∧ H = H' ∧ y < 256 ∧ n ≤ 56 ∧ bl y + n = bl x, ?_, ?_⟩
  · exact step 8 y n (fun p H' => ∃ y n : Nat, p = ((y : Int), (n : Int)) ∧ H = H' ∧ y < 256 ∧ n ≤ 56 ∧ bl y + n = bl x) 256 rfl (by omega) (by omega) (by omega) he (fun y' n' h1 h2 h3 => ⟨y', n', rfl, rfl, by rcases h1 with h1 | ⟨h1, _⟩ <;> omega, by omega, h3⟩)
  rintro _ _ ⟨y, n, rfl, rfl, hy, hn, he⟩
  have ht := len8_ok ⟨y, hy⟩
  have hb8 : bl y ≤ 8 := bl_le_of hy
  dsimp only at ht ⊢
  rw [w_u8 (by omega) (by omega)]
  refine ⟨UInt8.ofNat (bl y), by omega, ?_, ?_⟩
  · rw [Int.toNat_natCast, ← ht]; rfl
  · have e : (UInt8.ofNat (bl y)).toNat = bl y := by rw [UInt8.toNat_ofNat']; omega
    dsimp only
    rw [e, w_i64 (x := (bl y : Int)) (by omega) (by omega), w_i64 (by omega) (by omega)]
    have : (n : Int) + (bl y : Int) = (bl x : Int) := by omega
    rw [this]; exact k
end Sx
set_option linter.unusedVariables false
set_option maxRecDepth 10000
namespace Sx
open Go Go.Proofs
/-- k bytes of a number, the highest first -/
def be : Nat → Nat → Str
  | 0, _ => []
  | k + 1, u => UInt8.ofNat (u / 2 ^ (8 * k)) :: be k u
/-- how many bytes a number has -/
def kl (u : Nat) : Nat := (bl u + 7) / 8
theorem kl_le {u : Nat} (h : u < 18446744073709551616) : kl u ≤ 8 := by have : bl u ≤ 64 := bl_le_of (n := 64) h; unfold kl; omega
def numB (first : Nat) (u : Nat) : Str := UInt8.ofNat (first + kl u) :: be (kl u) u

theorem w_u8_nat (n : Nat) : w .u8 (n : Int) = ((UInt8.ofNat n).toNat : Int) := by
  rw [w_u8_mod, UInt8.toNat_ofNat']; norm_cast

section
variable {C : Ctx} {H0 H : Heap}
theorem pen_number_ok {b : Nat} {bs : Str} {t : UInt8} {first u : Nat} {K : Heap → Prop} (h : PenF H0 H b bs t) (hf : first ≤ 128) (hu : u < 18446744073709551616) (hm : bs.length + 9 ≤ 140737488355328)
    (k : ∀ H2, PenF H0 H2 b (bs ++ (numB first u).map (· ^^^ t)) t → K H2) : c_code_pen_number C (some (b, 0)) (first : Int) (u : Int) K H := by
  apply ad_code_pen_number
  unfold sh_code_pen_number
  refine len64_ok hu ?_
  have hb64 : bl u ≤ 64 := bl_le_of (n := 64) hu
  have hk8 := kl_le hu
  have e1 : w .i64 (Int.tdiv (w .i64 ((bl u : Int) + 7)) 8) = (kl u : Int) := by
    rw [w_i64 (x := (bl u : Int) + 7) (by omega) (by omega), Int.tdiv_eq_ediv_of_nonneg (by omega)]
    have : ((bl u : Int) + 7) / 8 = (kl u : Int) := by unfold kl; omega
    rw [this]; exact w_i64 (by omega) (by omega)
  rw [e1]
  have e2 : w .u8 ((first : Int) + w .u8 (kl u : Int)) = ((UInt8.ofNat (first + kl u)).toNat : Int) := by
    rw [w_u8 (x := (kl u : Int)) (by omega) (by omega)]
    have : (first : Int) + (kl u : Int) = ((first + kl u : Nat) : Int) := by omega
    rw [this]; exact w_u8_nat _
  rw [e2]
  refine pen_put_lit h (cs := [UInt8.ofNat (first + kl u)]) rfl rfl (by simp; omega) fun H2 h2 => ?_
  refine ⟨fun x H' => ∃ j : Nat, x = (j : Int) ∧ j ≤ kl u ∧ ∃ bs', PenF H0 H' b bs' t ∧ bs'.length + j = bs.length + 1 + kl u ∧ bs' ++ (be j u).map (· ^^^ t) = bs ++ (numB first u).map (· ^^^ t), fun x _ => x.toNat, ⟨kl u, rfl, Nat.le_refl _, _, h2, by simp <;> omega, by simp [numB]⟩, ?_⟩
  rintro x H' ⟨j, rfl, hj, bs', hp, hlen, heq⟩
  refine ift.of (fun hc => ?_) (fun hc => ?_)
  · have hj0 : 0 < j := by have := of_decide_eq_true hc; omega
    obtain ⟨j, rfl⟩ : ∃ i, j = i + 1 := ⟨j - 1, by omega⟩
    have e3 : w .i64 (((j + 1 : Nat) : Int) - 1) = (j : Int) := by rw [w_i64 (by omega) (by omega)]; omega
    have e4 : w .i64 (8 * (j : Int)) = ((8 * j : Nat) : Int) := by rw [w_i64 (by omega) (by omega)]; omega
    rw [e3, e4, sShr_u64 u (8 * j) (by omega), w_u8_nat]
    refine ⟨by omega, ?_⟩
    refine pen_put_lit hp (cs := [UInt8.ofNat (u / 2 ^ (8 * j))]) rfl rfl (by simp; omega) fun H3 h3 => ?_
    refine ⟨⟨j, rfl, by omega, _, h3, by simp; omega, ?_⟩, by dsimp only; omega⟩
    rw [← heq]; simp [be]
  · have hj0 : j = 0 := by have := of_decide_eq_false hc; omega
    subst hj0
    simp only [be, List.map_nil, List.append_nil] at heq
    subst heq
    exact k _ hp

theorem bnot_i64 {n : Int} (h0 : -9223372036854775808 ≤ n) (h1 : n ≤ 9223372036854775807) : bXor .i64 (-1) n = -1 - n := by
  show IntKind.i64.wrap (((BitVec.ofInt 64 (-1) ^^^ BitVec.ofInt 64 n : BitVec 64).toNat : Nat) : Int) = _
  have e : BitVec.ofInt 64 (-1) = BitVec.allOnes 64 := rfl
  rw [e, BitVec.allOnes_xor]
  have h2 := w_i64_of_bv (~~~ BitVec.ofInt 64 n)
  have hx := i64_ofInt h0 h1
  generalize BitVec.ofInt 64 n = x at *
  have h3 : (~~~ x).toInt = -1 - x.toInt := by
    have hl := x.isLt
    rw [BitVec.toInt_eq_toNat_cond, BitVec.toInt_eq_toNat_cond, BitVec.toNat_not]
    split <;> split <;> omega
  rw [hx] at h3
  exact h2.trans h3

/-- a number's bytes -/
def Nm (n : Int) : Str := if n < 0 then (numB 128 (-1 - n).toNat).map (· ^^^ 255) else numB 128 n.toNat
def esc (s : Str) : Str := s.flatMap fun c => if c = 0 then [0, 255] else [c]
def Tx (s : Str) : Str := esc s ++ [0, 0]

theorem pen_num_ok {b : Nat} {bs : Str} {t : UInt8} {n : Int} {K : Heap → Prop} (h : PenF H0 H b bs t) (h0 : -9223372036854775808 ≤ n) (h1 : n ≤ 9223372036854775807) (hm : bs.length + 9 ≤ 140737488355328)
    (k : ∀ H2, PenF H0 H2 b (bs ++ (Nm n).map (· ^^^ t)) t → K H2) : c_code_pen_num C (some (b, 0)) n K H := by
  apply ad_code_pen_num
  unfold sh_code_pen_num
  by_cases hn : n < 0
  · refine ⟨fun x H' => x = -1 - n ∧ H = H', ift_pos (decide_eq_true hn) ⟨bnot_i64 h0 h1, rfl⟩, ?_⟩
    rintro x _ ⟨rfl, rfl⟩
    refine pen_flip_ok h fun H2 h2 => ?_
    rw [decide_eq_true hn, if_pos rfl] at h2
    obtain ⟨u, hu⟩ := Int.eq_ofNat_of_zero_le (show 0 ≤ -1 - n by omega)
    rw [hu, w_u64 (by omega) (by omega)]
    refine pen_number_ok (first := 128) h2 (by omega) (by omega) hm fun H3 h3 => ?_
    refine pen_flip_ok h3 fun H4 h4 => k H4 ?_
    rw [decide_eq_true hn, if_pos rfl] at h4
    have e : t ^^^ 255 ^^^ 255 = t := by rw [UInt8.xor_assoc]; simp
    rw [e] at h4
    unfold Nm
    rw [if_pos hn, List.map_map]
    have e2 : (-1 - n).toNat = u := by omega
    rw [e2]
    have e3 : ((fun x => x ^^^ t) ∘ fun x : UInt8 => x ^^^ 255) = fun x => x ^^^ (t ^^^ 255) := by
      funext x; simp only [Function.comp]; rw [UInt8.xor_assoc, UInt8.xor_comm 255 t]
    rw [e3]; exact h4
  · refine ⟨fun x H' => x = n ∧ H = H', ift_neg (decide_eq_false hn) ⟨rfl, rfl⟩, ?_⟩
    rintro x _ ⟨rfl, rfl⟩
    refine pen_flip_ok h fun H2 h2 => ?_
    rw [decide_eq_false hn, if_neg (by decide)] at h2
    obtain ⟨u, rfl⟩ := Int.eq_ofNat_of_zero_le (show 0 ≤ x by omega)
    rw [w_u64 (by omega) (by omega)]
    refine pen_number_ok (first := 128) h2 (by omega) (by omega) hm fun H3 h3 => ?_
    refine pen_flip_ok h3 fun H4 h4 => k H4 ?_
    rw [decide_eq_false hn, if_neg (by decide)] at h4
    unfold Nm
    rw [if_neg hn]; exact h4

theorem esc_cons (c : UInt8) (s : Str) : esc (c :: s) = (if c = 0 then [0, 255] else [c]) ++ esc s := rfl
theorem esc_take {s : Str} {i : Nat} (h : i < s.length) : esc (s.take (i + 1)) = esc (s.take i) ++ (if s.getD i 0 = 0 then [0, 255] else [s.getD i 0]) := by
  rw [List.take_add_one, getD_some h]
  simp [esc]
theorem esc_len (s : Str) : (esc s).length ≤ 2 * s.length := by
  induction s with
  | nil => simp [esc]
  | cons c s ih => rw [esc_cons]; simp only [List.length_append, List.length_cons]; split <;> simp <;> omega

theorem pen_text_ok {b : Nat} {bs : Str} {t : UInt8} {s : Str} {K : Heap → Prop} (h : PenF H0 H b bs t) (hm : bs.length + 2 * s.length + 2 ≤ 140737488355328)
    (k : ∀ H2, PenF H0 H2 b (bs ++ (Tx s).map (· ^^^ t)) t → K H2) : c_code_pen_text C (some (b, 0)) s K H := by
  apply ad_code_pen_text
  unfold sh_code_pen_text
  refine ⟨fun x H' => ∃ i : Nat, x = (i : Int) ∧ i ≤ s.length ∧ PenF H0 H' b (bs ++ (esc (s.take i)).map (· ^^^ t)) t, fun x _ => s.length - x.toNat, ⟨0, rfl, Nat.zero_le _, by simpa [esc] using h⟩, ?_⟩
  rintro x H' ⟨i, rfl, hi, hp⟩
  have hel := esc_len (s.take i)
  have htl : (s.take i).length = i := by simp; omega
  refine ift.of (fun hc => ?_) (fun hc => ?_)
  · have hlt : i < s.length := by simpa using hc
    refine ⟨fun _ H2 => PenF H0 H2 b (bs ++ (esc (s.take (i + 1))).map (· ^^^ t)) t, ?_, fun _ H2 h2 => ?_⟩
    · refine ⟨s.getD i 0, by omega, getD_some hlt, ?_⟩
      refine pen_put_lit hp (cs := [s.getD i 0]) rfl rfl (by simp; omega) fun H2 h2 => ?_
      refine ⟨s.getD i 0, by omega, getD_some hlt, ?_⟩
      rw [esc_take hlt]
      refine ift.of (fun h0 => ?_) (fun h0 => ?_)
      · have hz : s.getD i 0 = 0 := by
          have : (s.getD i 0).toNat = 0 := by simpa using h0
          exact UInt8.toNat_inj.1 this
        refine pen_put_lit h2 (cs := [255]) rfl rfl (by simp; omega) fun H3 h3 => ?_
        rw [hz] at h3 ⊢
        rw [if_pos rfl]
        simpa using h3
      · have hz : s.getD i 0 ≠ 0 := fun e => by rw [e] at h0; simp at h0
        rw [if_neg hz]
        simpa using h2
    · rw [w_i64 (by omega) (by omega)]
      exact ⟨⟨i + 1, by omega, by omega, h2⟩, by simp; omega⟩
  · have : i = s.length := by have := of_decide_eq_false hc; omega
    subst this
    rw [List.take_length] at hp hel
    refine pen_put_lit hp (cs := [0, 0]) rfl rfl (by simp; omega) fun H2 h2 => k H2 ?_
    unfold Tx
    simpa using h2

/-- the pen's bytes, taken out -/
theorem PenF.take {b : Nat} {bs : Str} {t : UInt8} (h : PenF H0 H b bs t) : ∃ s : Sl, rd H (b, 0) = some (slv s) ∧ OwnF H0 H 1 s (bytesV bs) := by
  obtain ⟨s, h1, h2, h3, h4⟩ := h.row
  exact ⟨s, by rw [rd_row h1]; rfl, h.le, h2, h3⟩

theorem map_xor_zero (s : Str) : s.map (· ^^^ 0) = s := by simp

theorem code_Num_ok {s : Sl} {a : Str} {n : Int} {K : Sl → Heap → Prop} (hr : rdsl H s (bytesV a)) (hl : s.len = a.length) (h0 : -9223372036854775808 ≤ n) (h1 : n ≤ 9223372036854775807) (hm : a.length + 9 ≤ 140737488355328)
    (k : ∀ r H2, OwnF H H2 1 r (bytesV (a ++ Nm n)) → K r H2) : c_code_Num C s n K H := by
  apply ad_code_Num
  unfold sh_code_Num
  refine code_behind_ok hr hl (by omega) fun b H2 h2 => ?_
  refine pen_num_ok h2 h0 h1 hm fun H3 h3 => ?_
  rw [map_xor_zero] at h3
  obtain ⟨r, h4, h5⟩ := h3.take
  exact ⟨_, rfl, r, h4, k r H3 h5⟩

/-- a count's bytes -/
def Ct (n : Int) : Str := if 0 ≤ n ∧ n ≤ 2147483647 then numB 0 n.toNat else []

theorem code_Count_ok {s : Sl} {a : Str} {n : Int} {K : Sl → Heap → Prop} (hr : rdsl H s (bytesV a)) (hl : s.len = a.length) (hm : a.length + 9 ≤ 140737488355328)
    (k : ∀ r H2, OwnF H H2 1 r (bytesV (a ++ Ct n)) → K r H2) : c_code_Count C s n K H := by
  apply ad_code_Count
  unfold sh_code_Count
  refine code_behind_ok hr hl (by omega) fun b H2 h2 => ?_
  refine ⟨fun _ H3 => PenF H H3 b (a ++ Ct n) 0, ?_, fun _ H3 h3 => ?_⟩
  · refine ift.of (fun hc => ?_) (fun hc => ?_)
    · simp only [Bool.and_eq_true, decide_eq_true_eq] at hc
      obtain ⟨u, rfl⟩ := Int.eq_ofNat_of_zero_le hc.1
      rw [w_u64 (by omega) (by omega)]
      refine pen_number_ok (first := 0) h2 (by omega) (by omega) hm fun H3 h3 => ?_
      rw [map_xor_zero] at h3
      unfold Ct
      rw [if_pos (by omega)]; exact h3
    · have hc : ¬ (0 ≤ n ∧ n ≤ 2147483647) := fun hh => by simp [hh.1, hh.2] at hc
      unfold Ct
      rw [if_neg hc, List.append_nil]; exact h2
  · obtain ⟨r, h4, h5⟩ := h3.take
    exact ⟨_, rfl, r, h4, k r H3 h5⟩

theorem code_Str_ok {s : Sl} {a u : Str} {K : Sl → Heap → Prop} (hr : rdsl H s (bytesV a)) (hl : s.len = a.length) (hm : a.length + 2 * u.length + 2 ≤ 140737488355328)
    (k : ∀ r H2, OwnF H H2 1 r (bytesV (a ++ Tx u)) → K r H2) : c_code_Str C s u K H := by
  apply ad_code_Str
  unfold sh_code_Str
  refine code_behind_ok hr hl (by omega) fun b H2 h2 => ?_
  refine pen_text_ok h2 hm fun H3 h3 => ?_
  rw [map_xor_zero] at h3
  obtain ⟨r, h4, h5⟩ := h3.take
  exact ⟨_, rfl, r, h4, k r H3 h5⟩

theorem code_Flag_ok {s : Sl} {a : Str} {v : Bool} {K : Sl → Heap → Prop} (hr : rdsl H s (bytesV a)) (hl : s.len = a.length) (hm : a.length + 1 ≤ 140737488355328)
    (k : ∀ r H2, OwnF H H2 1 r (bytesV (a ++ [if v then 1 else 0])) → K r H2) : c_code_Flag C s v K H := by
  apply ad_code_Flag
  unfold sh_code_Flag
  refine code_behind_ok hr hl (by omega) fun b H2 h2 => ?_
  refine ⟨fun _ H3 => PenF H H3 b (a ++ [if v then 1 else 0]) 0, ?_, fun _ H3 h3 => ?_⟩
  · cases v with
    | true => exact ift_pos rfl (pen_put_lit h2 (cs := [1]) rfl rfl (by simpa using hm) fun H3 h3 => by simpa using h3)
    | false => exact ift_neg rfl (pen_put_lit h2 (cs := [0]) rfl rfl (by simpa using hm) fun H3 h3 => by simpa using h3)
  · obtain ⟨r, h4, h5⟩ := h3.take
    exact ⟨_, rfl, r, h4, k r H3 h5⟩
end
end Sx
set_option linter.unusedVariables false
set_option maxRecDepth 10000
namespace Sx
open Go Go.Proofs
/-- a reader: what is left, its turn, whether it failed -/
structure RS where
  s : Str
  t : UInt8
  f : Bool

def askR (ok : Bool) (r : RS) : RS := if ok then r else ⟨[], r.t, true⟩
def flipR (is : Bool) (r : RS) : RS := if is then ⟨r.s, r.t ^^^ 255, r.f⟩ else r
def nextR (r : RS) : UInt8 × RS :=
  if (askR (decide (0 < r.s.length)) r).f then (0, askR (decide (0 < r.s.length)) r) else (r.s.getD 0 0 ^^^ r.t, ⟨r.s.drop 1, r.t, r.f⟩)
def numL : Nat → Nat → Nat → RS → Nat × RS
  | 0, _, u, r => (u, r)
  | k + 1, i, u, r => numL k (i + 1) (u * 256 % 18446744073709551616 + (nextR r).1.toNat) (askR (decide (0 < i) || (nextR r).1 != 0) (nextR r).2)
def numberR (k most : Int) (r : RS) : Nat × RS :=
  if (askR (decide (0 ≤ k) && decide (k ≤ most)) r).f then (0, askR (decide (0 ≤ k) && decide (k ≤ most)) r) else numL k.toNat 0 0 (askR (decide (0 ≤ k) && decide (k ≤ most)) r)

structure Rdr (H : Heap) (b : Nat) (r : RS) : Prop where
  ok : ∃ sl : Sl, H b = some (true, .row [slv sl, .int .u8 (r.t.toNat : Int), .bool r.f]) ∧ sl.len = r.s.length ∧ sl.len ≤ sl.cap ∧ Im H sl (bytesV r.s)

theorem Rdr.le {A B : Heap} {b : Nat} {r : RS} (h : Rdr A b r) (hle : A.le B) : Rdr B b r := by
  obtain ⟨sl, h1, h2, h3, h4⟩ := h.ok
  exact ⟨sl, hle _ _ h1, h2, h3, h4.ext hle.ext⟩
theorem Rdr.off {H : Heap} {b : Nat} {r : RS} (h : Rdr H b r) {z : Nat} {s : Sl} {cs : List Value} (ho : Own H z s cs) (hne : ∀ p, s.p = some p → p.1 ≠ b) : Rdr (H.off s) b r := by
  obtain ⟨t, h1, h2, h3, h4⟩ := h.ok
  refine ⟨t, Heap.off_some h1 hne, h2, h3, ?_⟩
  rcases h4 with h4 | ⟨hx, bb, o, c, hp, hb, hc⟩
  · exact .inl h4
  · refine .inr ⟨hx, bb, o, c, hp, Heap.off_some hb fun p hp e => ?_, hc⟩
    obtain ⟨g, hg⟩ := ho.mine hp
    rw [e, hb] at hg; cases hg
/-- its row written over -/
theorem Rdr.put {H : Heap} {b : Nat} {r : RS} (h : Rdr H b r) {sl : Sl} {s : Str} {t : UInt8} {f : Bool} (h1 : sl.len = s.length) (h2 : sl.len ≤ sl.cap) (h3 : Im H sl (bytesV s)) : Rdr (H.put b (.row [slv sl, .int .u8 (t.toNat : Int), .bool f])) b ⟨s, t, f⟩ := by
  obtain ⟨sl', h1', _⟩ := h.ok
  exact ⟨sl, Heap.put_same .., h1, h2, h3.ext (ext_put_own h1')⟩

section
variable {C : Ctx} {H : Heap}
theorem ask_ok {b : Nat} {r : RS} {ok : Bool} {K : Bool → Heap → Prop} (h : Rdr H b r) (k : ∀ H2, Heap.but b H H2 → Rdr H2 b (askR ok r) → K (!(askR ok r).f) H2) : c_code_Reader_ask C (some (b, 0)) ok K H := by
  obtain ⟨sl, h1, h2, h3, h4⟩ := h.ok
  apply ad_code_Reader_ask
  unfold sh_code_Reader_ask
  refine ⟨fun _ H2 => Heap.but b H H2 ∧ Rdr H2 b (askR ok r), ?_, fun _ H2 h5 => ?_⟩
  · cases ok with
    | true => exact ift_neg rfl ⟨Heap.but.refl _ _, h⟩
    | false =>
      refine ift_pos rfl ⟨_, rfl, _, h1, by simp, _, rfl, _, Heap.put_same .., by simp, ?_⟩
      rw [Heap.put_put]
      exact ⟨Heap.but.put _ _ _ _, h.put (sl := Sl.nil) (s := []) rfl (Nat.le_refl _) (.inl rfl)⟩
  · obtain ⟨h5, h6⟩ := h5
    obtain ⟨sl', g1, g2, g3, g4⟩ := h6.ok
    exact ⟨_, rfl, (askR ok r).f, by rw [rd_row g1]; rfl, k H2 h5 h6⟩

theorem flip_ok {b : Nat} {r : RS} {is : Bool} {K : Heap → Prop} (h : Rdr H b r) (k : ∀ H2, Heap.but b H H2 → Rdr H2 b (flipR is r) → K H2) : c_code_Reader_flip C (some (b, 0)) is K H := by
  obtain ⟨sl, h1, h2, h3, h4⟩ := h.ok
  apply ad_code_Reader_flip
  unfold sh_code_Reader_flip
  cases is with
  | false => exact ift_neg rfl (k H (Heap.but.refl _ _) h)
  | true =>
    refine ift_pos rfl ⟨_, rfl, (r.t.toNat : Int), by rw [rd_row h1]; rfl, _, rfl, _, h1, by simp, ?_⟩
    have e : bXor .u8 (r.t.toNat : Int) 255 = ((r.t ^^^ 255).toNat : Int) := xor_u8 r.t 255
    rw [e]
    exact k _ (Heap.but.put _ _ _ _) (h.put h2 h3 h4)

theorem next_ok {b : Nat} {r : RS} {K : Int → Heap → Prop} (h : Rdr H b r) (k : ∀ H2, Heap.but b H H2 → Rdr H2 b (nextR r).2 → K ((nextR r).1.toNat : Int) H2) : c_code_Reader_next C (some (b, 0)) K H := by
  obtain ⟨sl, h1, h2, h3, h4⟩ := h.ok
  apply ad_code_Reader_next
  unfold sh_code_Reader_next
  refine ⟨_, rfl, sl, by rw [rd_row h1]; rfl, ?_⟩
  have e0 : (decide ((sl.len : Int) > 0)) = decide (0 < r.s.length) := by rw [h2]; simp
  dsimp only
  rw [e0]
  refine ask_ok h fun H2 hb2 hr2 => ?_
  refine ift.of (fun hc => ?_) (fun hc => ?_)
  · have hf : (askR (decide (0 < r.s.length)) r).f = true := by simpa using hc
    have e1 : nextR r = (0, askR (decide (0 < r.s.length)) r) := by unfold nextR; rw [if_pos hf]
    rw [e1] at k
    exact k H2 hb2 hr2
  · have hf : (askR (decide (0 < r.s.length)) r).f = false := by simpa using hc
    have e1 : nextR r = (r.s.getD 0 0 ^^^ r.t, ⟨r.s.drop 1, r.t, r.f⟩) := by unfold nextR; rw [if_neg (by rw [hf]; decide)]
    rw [e1] at k
    have hpos : 0 < r.s.length := by
      by_cases hh : 0 < r.s.length
      · exact hh
      · unfold askR at hf; rw [decide_eq_false hh] at hf; simp at hf
    have e2 : askR (decide (0 < r.s.length)) r = r := by unfold askR; rw [decide_eq_true hpos]; rfl
    rw [e2] at hr2
    obtain ⟨sl, h1, h2, h3, h4⟩ := hr2.ok
    refine ⟨_, rfl, sl, by rw [rd_row h1]; rfl, ?_⟩
    refine ix_ldI h4.rdsl (j := 0) rfl (by omega) (bytes_at hpos) ?_
    refine ⟨_, rfl, (r.t.toNat : Int), by rw [rd_row h1]; rfl, _, rfl, sl, by rw [rd_row h1]; rfl, by omega, by omega, by omega, by omega, _, rfl, _, rfl, _, h1, by simp, ?_⟩
    dsimp only
    rw [xor_u8]
    have him := Im.slice (H := H2) h4 (lo := 1) (hi := (sl.len : Int)) (mx := (sl.cap : Int)) (z := 1) (by omega) (by omega) (by omega)
    have e3 : ((bytesV r.s).drop ((1 : Int).toNat * 1)).take (((sl.len : Int) - 1).toNat * 1) = bytesV (r.s.drop 1) := by
      rw [show ((sl.len : Int) - 1).toNat * 1 = (r.s.drop 1).length by simp; omega, show (1 : Int).toNat * 1 = 1 by omega, bytesV_drop, bytesV_take, List.take_length]
    rw [e3] at him
    exact k _ (hb2.trans (Heap.but.put _ _ _ _)) (hr2.put (by simp; omega) (by simp; omega) him)

theorem step_u64 {u : Nat} {c : UInt8} (hu : u < 18446744073709551616) : bOr .u64 (sShl .u64 (u : Int) 8) (w .u64 (c.toNat : Int)) = ((u * 256 % 18446744073709551616 + c.toNat : Nat) : Int) := by
  have hc := u8_lt c
  have e1 : sShl .u64 (u : Int) 8 = ((u * 256 % 18446744073709551616 : Nat) : Int) := by
    unfold sShl
    have hm : min ((8 : Int)).toNat IntKind.u64.bits = 8 := rfl
    rw [hm]
    have e2 : (u : Int) * 2 ^ 8 = ((u * 256 : Nat) : Int) := by
      have h8 : (2 : Int) ^ 8 = 256 := by decide
      rw [h8]; omega
    rw [e2]
    have := w_u64_mod ((u * 256 : Nat) : Int)
    unfold w at this
    rw [this]; omega
  rw [e1, w_u64 (by omega) (by omega)]
  have hlt : u * 256 % 18446744073709551616 < 18446744073709551616 := Nat.mod_lt _ (by omega)
  show IntKind.u64.wrap (((BitVec.ofInt 64 ((u * 256 % 18446744073709551616 : Nat) : Int) ||| BitVec.ofInt 64 (c.toNat : Int) : BitVec 64).toNat : Nat) : Int) = _
  have h1 : (BitVec.ofInt 64 ((u * 256 % 18446744073709551616 : Nat) : Int)) = BitVec.ofNat 64 (u * 256 % 18446744073709551616) := rfl
  have h2 : (BitVec.ofInt 64 (c.toNat : Int)) = BitVec.ofNat 64 c.toNat := rfl
  rw [h1, h2, ← BitVec.ofNat_or]
  obtain ⟨v, hv⟩ : ∃ v, u * 256 % 18446744073709551616 = v * 2 ^ 8 := ⟨u % 72057594037927936, by omega⟩
  rw [hv] at hlt ⊢
  have e3 : v * 2 ^ 8 ||| c.toNat = v * 2 ^ 8 + c.toNat := by rw [← Nat.shiftLeft_eq, Nat.shiftLeft_add_eq_or_of_lt (by omega)]
  rw [e3, BitVec.toNat_ofNat, Nat.mod_eq_of_lt (by omega)]
  exact w_u64 (by omega) (by omega)

theorem number_ok {b : Nat} {r : RS} {kk most : Int} {K : Int → Heap → Prop} (hk64 : kk ≤ 1000000) (h : Rdr H b r) (k : ∀ H2, Heap.but b H H2 → Rdr H2 b (numberR kk most r).2 → (numberR kk most r).1 < 18446744073709551616 → K ((numberR kk most r).1 : Int) H2) : c_code_Reader_number C (some (b, 0)) kk most K H := by
  apply ad_code_Reader_number
  unfold sh_code_Reader_number
  have e0 : (decide (kk ≥ 0) && decide (kk ≤ most)) = (decide (0 ≤ kk) && decide (kk ≤ most)) := rfl
  rw [e0]
  refine ask_ok h fun H2 hb2 hr2 => ?_
  refine ift.of (fun hc => ?_) (fun hc => ?_)
  · have hf : (askR (decide (0 ≤ kk) && decide (kk ≤ most)) r).f = true := by simpa using hc
    have e1 : numberR kk most r = (0, askR (decide (0 ≤ kk) && decide (kk ≤ most)) r) := by unfold numberR; rw [if_pos hf]
    rw [e1] at k
    exact k H2 hb2 hr2 (show 0 < 18446744073709551616 by omega)
  · have hf : (askR (decide (0 ≤ kk) && decide (kk ≤ most)) r).f = false := by simpa using hc
    have e1 : numberR kk most r = numL kk.toNat 0 0 (askR (decide (0 ≤ kk) && decide (kk ≤ most)) r) := by unfold numberR; rw [if_neg (by rw [hf]; decide)]
    rw [e1] at k
    generalize askR (decide (0 ≤ kk) && decide (kk ≤ most)) r = r0 at *
    refine ⟨fun x H' => ∃ i u : Nat, x = ((u : Int), (i : Int)) ∧ u < 18446744073709551616 ∧ i ≤ kk.toNat ∧ Heap.but b H H' ∧ ∃ r', Rdr H' b r' ∧ numL (kk.toNat - i) i u r' = numL kk.toNat 0 0 r0, fun x _ => kk.toNat - x.2.toNat, ⟨0, 0, rfl, by omega, Nat.zero_le _, hb2, r0, hr2, rfl⟩, ?_⟩
    rintro x H' ⟨i, u, rfl, hu, hi, hb3, r', hr3, he⟩
    refine ift.of (fun hc => ?_) (fun hc => ?_)
    · have hlt : i < kk.toNat := by have := of_decide_eq_true hc; dsimp only at this; omega
      refine next_ok hr3 fun H4 hb4 hr4 => ?_
      have e5 : (decide ((i : Int) > 0) || (((nextR r').1.toNat : Int) != 0)) = (decide (0 < i) || (nextR r').1 != 0) := by
        have a1 : (decide ((i : Int) > 0)) = decide (0 < i) := by simp
        have a2 : (((nextR r').1.toNat : Int) != 0) = ((nextR r').1 != 0) := by
          rw [Bool.eq_iff_iff]; simp only [bne_iff_ne, ne_eq]
          constructor
          · intro hh e; rw [e] at hh; simp at hh
          · intro hh e; exact hh (UInt8.toNat_inj.1 (by have h0 : (0 : UInt8).toNat = 0 := rfl; omega))
        rw [a1, a2]
      dsimp only
      rw [e5]
      refine ask_ok hr4 fun H5 hb5 hr5 => ?_
      rw [step_u64 hu, w_i64 (by omega) (by omega)]
      have hs : numL (kk.toNat - i) i u r' = numL (kk.toNat - (i + 1)) (i + 1) (u * 256 % 18446744073709551616 + (nextR r').1.toNat) (askR (decide (0 < i) || (nextR r').1 != 0) (nextR r').2) := by
        rw [show kk.toNat - i = (kk.toNat - (i + 1)) + 1 by omega]; rfl
      have hc8 := u8_lt (nextR r').1
      refine ⟨⟨i + 1, _, rfl, by omega, by omega, (hb3.trans hb4).trans hb5, _, hr5, by rw [← hs]; exact he⟩, by first | omega | (dsimp only; omega)⟩
    · have hie : i = kk.toNat := by have := of_decide_eq_false hc; omega
      rw [hie, Nat.sub_self] at he
      have he' : (u, r') = numL kk.toNat 0 0 r0 := he
      rw [← he'] at k
      exact k H' hb3 hr3 hu
end
end Sx
set_option linter.unusedVariables false
set_option maxRecDepth 10000
namespace Sx
open Go Go.Proofs
def numK (c : UInt8) : Int := (if c < 128 then 255 - (c.toNat : Int) else (c.toNat : Int)) - 128
def numR (r : RS) : Int × RS :=
  let below := decide ((nextR r).1 < 128)
  let q := numberR (numK (nextR r).1) 8 (flipR below (nextR r).2)
  let z := askR (decide (q.1 ≤ 9223372036854775807)) (flipR below q.2)
  (if z.f then 0 else if below then -1 - (q.1 : Int) else (q.1 : Int), z)
def countR (most : Int) (r : RS) : Int × RS :=
  let q := numberR ((nextR r).1.toNat : Int) 4 (nextR r).2
  let z := askR (decide (0 ≤ most) && decide (q.1 ≤ 2147483647) && decide ((q.1 : Int) ≤ most)) q.2
  (if z.f then 0 else (q.1 : Int), z)
def flagR (r : RS) : Bool × RS :=
  let z := askR (decide ((nextR r).1.toNat ≤ 1)) (nextR r).2
  (!z.f && decide ((nextR r).1.toNat = 1), z)
def strF : Nat → Int → Str → RS → Str × RS
  | 0, _, _, r => ([], r)
  | n + 1, most, acc, r =>
    if (askR (decide ((acc.length : Int) ≤ most)) r).f then ([], askR (decide ((acc.length : Int) ≤ most)) r)
    else if (nextR (askR (decide ((acc.length : Int) ≤ most)) r)).1 = 0 then
      let q := nextR (nextR (askR (decide ((acc.length : Int) ≤ most)) r)).2
      let z := askR (decide (q.1 = 0) || decide (q.1 = 255)) q.2
      if z.f then ([], z) else if q.1 = 0 then (acc, z) else strF n most (acc ++ [0]) z
    else strF n most (acc ++ [(nextR (askR (decide ((acc.length : Int) ≤ most)) r)).1]) (nextR (askR (decide ((acc.length : Int) ≤ most)) r)).2
def strR (most : Int) (r : RS) : Str × RS := strF (r.s.length + 2) most [] r

section
variable {C : Ctx} {H : Heap}
theorem u8_lt_iff (a : UInt8) (n : Nat) (hn : n < 256) : decide ((a.toNat : Int) < (n : Int)) = decide (a < UInt8.ofNat n) := by
  rw [Bool.eq_iff_iff]
  simp only [decide_eq_true_eq, UInt8.lt_iff_toNat_lt, UInt8.toNat_ofNat']
  omega

theorem readNum_ok {b : Nat} {r : RS} {K : Int → Heap → Prop} (h : Rdr H b r) (k : ∀ H2, Heap.but b H H2 → Rdr H2 b (numR r).2 → K (numR r).1 H2) : c_code_Reader_Num C (some (b, 0)) K H := by
  apply ad_code_Reader_Num
  unfold sh_code_Reader_Num
  refine ift_neg rfl (next_ok h fun H2 hb2 hr2 => ?_)
  have hc := u8_lt (nextR r).1
  have e0 : decide (((nextR r).1.toNat : Int) < 128) = decide ((nextR r).1 < 128) := u8_lt_iff (nextR r).1 128 (by omega)
  rw [e0]
  refine ⟨fun x H' => x = (if (nextR r).1 < 128 then 255 - ((nextR r).1.toNat : Int) else ((nextR r).1.toNat : Int)) ∧ H2 = H', ?_, ?_⟩
  · refine ift.of (fun hh => ⟨?_, rfl⟩) (fun hh => ⟨?_, rfl⟩)
    · rw [if_pos (of_decide_eq_true hh)]
      have e1 : bXor .u8 255 ((nextR r).1.toNat : Int) = (((255 : UInt8) ^^^ (nextR r).1).toNat : Int) := xor_u8 255 _
      rw [e1]
      have e2 : ∀ c : UInt8, ((255 : UInt8) ^^^ c).toNat + c.toNat = 255 := by
        intro c
        have : ∀ i : Fin 256, ((255 : UInt8) ^^^ UInt8.ofNat i.val).toNat + (UInt8.ofNat i.val).toNat = 255 := by decide +kernel
        have h := this ⟨c.toNat, u8_lt c⟩
        simpa using h
      have := e2 (nextR r).1
      omega
    · rw [if_neg (of_decide_eq_false hh)]
  rintro x _ ⟨rfl, rfl⟩
  refine flip_ok hr2 fun H3 hb3 hr3 => ?_
  have e4 : w .i64 (w .i64 (if (nextR r).1 < 128 then 255 - ((nextR r).1.toNat : Int) else ((nextR r).1.toNat : Int)) - 128) = numK (nextR r).1 := by
    unfold numK
    split
    · rw [w_i64 (x := 255 - ((nextR r).1.toNat : Int)) (by omega) (by omega)]; exact w_i64 (by omega) (by omega)
    · rw [w_i64 (x := ((nextR r).1.toNat : Int)) (by omega) (by omega)]; exact w_i64 (by omega) (by omega)
  rw [e4]
  have hk : numK (nextR r).1 ≤ 1000000 := by unfold numK; split <;> omega
  refine number_ok hk hr3 fun H4 hb4 hr4 hlt => ?_
  refine flip_ok hr4 fun H5 hb5 hr5 => ?_
  have e5 : decide (((numberR (numK (nextR r).1) 8 (flipR (decide ((nextR r).1 < 128)) (nextR r).2)).1 : Int) ≤ 9223372036854775807) = decide ((numberR (numK (nextR r).1) 8 (flipR (decide ((nextR r).1 < 128)) (nextR r).2)).1 ≤ 9223372036854775807) := by
    rw [Bool.eq_iff_iff]; simp only [decide_eq_true_eq]; omega
  rw [e5]
  refine ask_ok hr5 fun H6 hb6 hr6 => ?_
  have hb := (((hb2.trans hb3).trans hb4).trans hb5).trans hb6
  have hk2 := k H6 hb hr6
  unfold numR at hk2
  dsimp only at hk2
  generalize hq : (numberR (numK (nextR r).1) 8 (flipR (decide ((nextR r).1 < 128)) (nextR r).2)).1 = q at *
  generalize hz : askR (decide (q ≤ 9223372036854775807)) (flipR (decide ((nextR r).1 < 128)) (numberR (numK (nextR r).1) 8 (flipR (decide ((nextR r).1 < 128)) (nextR r).2)).2) = z at *
  refine ift.of (fun hf => ?_) (fun hf => ?_)
  · have hf : z.f = true := by simpa using hf
    rw [if_pos hf] at hk2; exact hk2
  · have hf : z.f = false := by simpa using hf
    rw [if_neg (by rw [hf]; decide)] at hk2
    have hq63 : q ≤ 9223372036854775807 := by
      rcases Nat.lt_or_ge 9223372036854775807 q with hgt | hle
      · rw [← hz, decide_eq_false (by omega)] at hf; cases hf
      · exact hle
    rw [w_i64 (by omega) (by omega)]
    refine ift.of (fun hbl => ?_) (fun hbl => ?_)
    · rw [if_pos hbl] at hk2
      rw [bnot_i64 (by omega) (by omega)]; exact hk2
    · rw [if_neg (by rw [hbl]; decide)] at hk2; exact hk2

theorem readCount_ok {b : Nat} {r : RS} {most : Int} {K : Int → Heap → Prop} (h : Rdr H b r) (k : ∀ H2, Heap.but b H H2 → Rdr H2 b (countR most r).2 → K (countR most r).1 H2) : c_code_Reader_Count C (some (b, 0)) most K H := by
  apply ad_code_Reader_Count
  unfold sh_code_Reader_Count
  refine ift_neg rfl (next_ok h fun H2 hb2 hr2 => ?_)
  have hc := u8_lt (nextR r).1
  rw [w_i64 (x := ((nextR r).1.toNat : Int)) (by omega) (by omega)]
  refine number_ok (by omega) hr2 fun H3 hb3 hr3 hlt => ?_
  have hk2 := fun H4 hb hr => k H4 hb hr
  unfold countR at hk2
  dsimp only at hk2
  generalize hq : (numberR ((nextR r).1.toNat : Int) 4 (nextR r).2).1 = q at *
  have e0 : (decide (most ≥ 0) && decide ((q : Int) ≤ 2147483647) && decide (w .i64 (q : Int) ≤ most)) = (decide (0 ≤ most) && decide (q ≤ 2147483647) && decide ((q : Int) ≤ most)) := by
    by_cases hq31 : q ≤ 2147483647
    · rw [w_i64 (by omega) (by omega), decide_eq_true hq31, decide_eq_true (show (q : Int) ≤ 2147483647 by omega)]
    · rw [decide_eq_false hq31, decide_eq_false (show ¬ (q : Int) ≤ 2147483647 by omega)]; simp
  rw [e0]
  refine ask_ok hr3 fun H4 hb4 hr4 => ?_
  have hk3 := hk2 H4 ((hb2.trans hb3).trans hb4) hr4
  generalize hz : askR (decide (0 ≤ most) && decide (q ≤ 2147483647) && decide ((q : Int) ≤ most)) (numberR ((nextR r).1.toNat : Int) 4 (nextR r).2).2 = z at *
  refine ift.of (fun hf => ?_) (fun hf => ?_)
  · have hf : z.f = true := by simpa using hf
    rw [if_pos hf] at hk3; exact hk3
  · have hf : z.f = false := by simpa using hf
    rw [if_neg (by rw [hf]; decide)] at hk3
    have hq31 : q ≤ 2147483647 := by
      rcases Nat.lt_or_ge 2147483647 q with hgt | hle
      · rw [← hz, decide_eq_false (show ¬ q ≤ 2147483647 by omega)] at hf
        simp [askR] at hf
      · exact hle
    rw [w_i64 (by omega) (by omega)]; exact hk3

theorem readFlag_ok {b : Nat} {r : RS} {K : Bool → Heap → Prop} (h : Rdr H b r) (k : ∀ H2, Heap.but b H H2 → Rdr H2 b (flagR r).2 → K (flagR r).1 H2) : c_code_Reader_Flag C (some (b, 0)) K H := by
  apply ad_code_Reader_Flag
  unfold sh_code_Reader_Flag
  refine ift_neg rfl (next_ok h fun H2 hb2 hr2 => ?_)
  have e0 : decide (((nextR r).1.toNat : Int) ≤ 1) = decide ((nextR r).1.toNat ≤ 1) := by rw [Bool.eq_iff_iff]; simp only [decide_eq_true_eq]; omega
  rw [e0]
  refine ask_ok hr2 fun H3 hb3 hr3 => ?_
  have hk := k H3 (hb2.trans hb3) hr3
  have e1 : (((nextR r).1.toNat : Int) == 1) = decide ((nextR r).1.toNat = 1) := by rw [Bool.eq_iff_iff]; simp only [decide_eq_true_eq, beq_iff_eq]; omega
  rw [e1]; exact hk

theorem ok_ok {b : Nat} {r : RS} {K : Bool → Heap → Prop} (h : Rdr H b r) (k : K (!r.f) H) : c_code_Reader_OK C (some (b, 0)) K H := by
  obtain ⟨sl, h1, h2, h3, h4⟩ := h.ok
  apply ad_code_Reader_OK
  unfold sh_code_Reader_OK
  exact jn.inl (ift_pos rfl ⟨_, rfl, r.f, by rw [rd_row h1]; rfl, k⟩)
theorem left_ok {b : Nat} {r : RS} {K : Int → Heap → Prop} (h : Rdr H b r) (k : K (r.s.length : Int) H) : c_code_Reader_Left C (some (b, 0)) K H := by
  obtain ⟨sl, h1, h2, h3, h4⟩ := h.ok
  apply ad_code_Reader_Left
  unfold sh_code_Reader_Left
  refine ift_neg rfl ⟨_, rfl, sl, by rw [rd_row h1]; rfl, ?_⟩
  dsimp only
  rw [h2]; exact k
theorem done_ok {b : Nat} {r : RS} {K : Bool → Heap → Prop} (h : Rdr H b r) (k : K (!r.f && decide (r.s.length = 0)) H) : c_code_Reader_Done C (some (b, 0)) K H := by
  apply ad_code_Reader_Done
  unfold sh_code_Reader_Done
  refine ok_ok h ?_
  refine jn.inl (ift.of (fun hf => left_ok h ?_) (fun hf => ?_))
  · have e : ((r.s.length : Int) == 0) = decide (r.s.length = 0) := by rw [Bool.eq_iff_iff]; simp only [decide_eq_true_eq, beq_iff_eq]; omega
    rw [e]; rw [hf] at k; simpa using k
  · rw [hf] at k; exact k

theorem NewReader_ok {s : Sl} {a : Str} {K : Option (Nat × Nat) → Heap → Prop} (hr : rdsl H s (bytesV a)) (hl : s.len = a.length) (hm : a.length ≤ 140737488355328) (k : ∀ b H2, H b = none → H.le H2 → Rdr H2 b ⟨a, 0, false⟩ → K (some (b, 0)) H2) : c_code_NewReader C s K H := by
  apply c_code_NewReader.gh
  apply ad_code_NewReader
  unfold sh_code_NewReader
  refine clone_ok hr hl hm (rdsl_nil hr) fun r H2 h2 => ?_
  intro b hb
  obtain ⟨hle, ⟨hcl, hx, hc, hcase⟩, hfr⟩ := h2
  have hlen : r.len = a.length := by simp [bytesV] at hcl; omega
  rcases hcase with ⟨hp, h0⟩ | ⟨g, sp, hp, hg, hgl⟩
  · have ha : a = [] := List.length_eq_zero_iff.1 (by omega)
    subst ha
    refine ⟨_, Gh.refl _, k b _ (hle.none hb) (hle.trans (Heap.le_put hb)) ⟨r, Heap.put_same .., hlen, hc, .inl rfl⟩⟩
  · have hgb : g ≠ b := fun e => by subst e; rw [hg] at hb; cases hb
    have hg2 : (H2.put b (.row (T_code_Reader.c ⟨r, 0, false⟩))) g = some (true, .row (bytesV a ++ sp)) := by rw [Heap.put_ne _ _ _ hgb]; exact hg
    refine ⟨_, Gh.seal_ hg2, k b _ (hle.none hb) (fun x e hx' => ?_) ⟨r, ?_, hlen, hc, .inr ⟨hx, g, 0, bytesV a ++ sp, hp, Heap.put_same .., fun j v hj => ?_⟩⟩⟩
    · have h1 : x ≠ g := fun e' => by subst e'; have := hfr _ hp; dsimp only at this; rw [this] at hx'; cases hx'
      have h2' : x ≠ b := fun e' => by subst e'; rw [hle.none hb] at hx'; cases hx'
      rw [Heap.put_ne _ _ _ h1, Heap.put_ne _ _ _ h2']; exact hle _ _ hx'
    · rw [Heap.put_ne _ _ _ (Ne.symm hgb), Heap.put_same]; rfl
    · have := (List.getElem?_eq_some_iff.1 hj).1
      rw [Nat.zero_add, List.getElem?_append_left this]; exact hj

theorem nextR_len (r : RS) : (nextR r).2.s.length ≤ r.s.length ∧ ((nextR r).2.f = false → (nextR r).2.s.length < r.s.length) := by
  by_cases hh : 0 < r.s.length
  · have e2 : askR (decide (0 < r.s.length)) r = r := by unfold askR; rw [decide_eq_true hh]; rfl
    unfold nextR
    rw [e2]
    split
    · rename_i hf; exact ⟨Nat.le_refl _, fun h => by dsimp only at h; rw [hf] at h; cases h⟩
    · exact ⟨by simp, fun _ => by simp; omega⟩
  · have e2 : askR (decide (0 < r.s.length)) r = ⟨[], r.t, true⟩ := by unfold askR; rw [decide_eq_false hh]; rfl
    unfold nextR
    rw [e2, if_pos rfl]
    exact ⟨Nat.zero_le _, fun h => by cases h⟩
theorem askR_f {ok : Bool} {r : RS} (h : (askR ok r).f = false) : ok = true ∧ askR ok r = r := by
  cases ok with
  | true => exact ⟨rfl, rfl⟩
  | false => cases h

def rdrLen (H : Heap) (b : Nat) : Nat := match rd H (b, 0) with | some (.slice _ n _) => n | _ => 0
theorem Rdr.len {b : Nat} {r : RS} (h : Rdr H b r) : rdrLen H b = r.s.length := by
  obtain ⟨sl, h1, h2, h3, h4⟩ := h.ok
  have : rd H (b, 0) = some (slv sl) := by rw [rd_row h1]; rfl
  unfold rdrLen
  rw [this]
  exact h2

/-- where the loop of Str stands -/
structure StrI (H H' : Heap) (b : Nat) (x : Sl) (acc : Str) (r : RS) : Prop where
  but : Heap.but b H H'
  rdr : Rdr H' b r
  own : Own H' 1 x (bytesV acc)
  fresh : Fresh H x
  ne : ∀ p, x.p = some p → p.1 ≠ b

theorem StrI.step {H' H2 : Heap} {b : Nat} {x : Sl} {acc : Str} {r r2 : RS} (h : StrI H H' b x acc r) (hb : Heap.but b H' H2) (hr : Rdr H2 b r2) : StrI H H2 b x acc r2 :=
  ⟨h.but.trans hb, hr, h.own.but hb h.ne, h.fresh, h.ne⟩

theorem StrI.push {H' : Heap} {b : Nat} {x : Sl} {acc : Str} {r : RS} (h : StrI H H' b x acc r) {c : UInt8} {K : Sl → Heap → Prop} (hl : acc.length + 1 ≤ 140737488355328) (k : ∀ x2 H2, StrI H H2 b x2 (acc ++ [c]) r → K x2 H2) :
    apd [.int .u8 0] 1 x [.int .u8 (c.toNat : Int)] 1 K H' := by
  have hof := h.own.off
  have hxl : x.len = acc.length := hof.lenB
  refine apd_ownF (zc := [.int .u8 0]) hof rfl (by omega) (by omega) fun x2 H2 ho _ => k x2 H2 ?_
  have hrd := h.rdr.off h.own h.ne
  obtain ⟨sl, hrow, _⟩ := hrd.ok
  have hxb : ∀ y e, H y = some e → y ≠ b → (H'.off x) y = some e := fun y e hy hyb => by
    refine Heap.off_some (h.but y e hyb hy) fun p hp e' => ?_
    have := h.fresh p hp
    rw [e', hy] at this; cases this
  have hne : ∀ p, x2.p = some p → p.1 ≠ b := fun p hp e' => by
    have := ho.fresh p hp
    rw [e', hrow] at this; cases this
  refine ⟨fun y e hyb hy => ho.le _ _ (hxb y e hy hyb), hrd.le ho.le, ?_, fun p hp => ?_, hne⟩
  · have := ho.own
    rw [bytesV_append]
    exact this
  · cases hy : H p.1 with
    | none => rfl
    | some e =>
      have h2 := hxb p.1 e hy (hne p hp)
      have h3 := ho.fresh p hp
      rw [h2] at h3; cases h3

theorem readStr_ok {b : Nat} {most : Int} {K : Str → Heap → Prop} {r0 : RS} (h : Rdr H b r0) (hl : r0.s.length ≤ 140737488355320) (k : ∀ H2, Heap.but b H H2 → Rdr H2 b (strR most r0).2 → K (strR most r0).1 H2) : c_code_Reader_Str C (some (b, 0)) most K H := by
  apply ad_code_Reader_Str
  unfold sh_code_Reader_Str
  refine ⟨fun _ H2 => Heap.but b H H2 ∧ Rdr H2 b (strR most r0).2 ∧ (strR most r0).1 = [], ?_, fun _ H2 ⟨h1, h2, h3⟩ => (by have := k H2 h1 h2; rw [h3] at this; exact this)⟩
  obtain ⟨sl0, hb0, _⟩ := h.ok
  refine ⟨fun x H' => ∃ (n : Nat) (acc : Str) (r : RS), strF (n + 1) most acc r = strR most r0 ∧ r.s.length ≤ n ∧ acc.length + r.s.length ≤ 140737488355320 ∧ StrI H H' b x acc r, 
    fun x H' => rdrLen H' b, ⟨r0.s.length + 1, [], r0, rfl, by omega, by simpa using hl, Heap.but.refl _ _, h, Own.nil _ _, Fresh.nil _, fun p hp => by cases hp⟩, ?_⟩
  rintro x H' ⟨n, acc, r, he, hn, hlen, hI⟩
  have hxl : x.len = acc.length := hI.own.off.lenB
  have hrl := hI.rdr.len
  apply jn.inl
  refine ift_pos rfl ?_
  dsimp only
  rw [hxl]
  refine ask_ok hI.rdr fun H2 hb2 hr2 => ?_
  have hI2 := hI.step hb2 hr2
  refine ift.of (fun hf => ?_) (fun hf => ?_)
  rotate_left
  · have hf : (askR (decide ((acc.length : Int) ≤ most)) r).f = true := by simpa using hf
    have e : strR most r0 = ([], askR (decide ((acc.length : Int) ≤ most)) r) := by rw [← he]; simp only [strF]; rw [if_pos hf]
    rw [e]
    exact ⟨hI2.but, hI2.rdr, rfl⟩
  have hf : (askR (decide ((acc.length : Int) ≤ most)) r).f = false := by simpa using hf
  have e0 := (askR_f hf).2
  have he2 : strF (n + 1) most acc r = if (nextR r).1 = 0 then
      (if (askR (decide ((nextR (nextR r).2).1 = 0) || decide ((nextR (nextR r).2).1 = 255)) (nextR (nextR r).2).2).f then ([], askR (decide ((nextR (nextR r).2).1 = 0) || decide ((nextR (nextR r).2).1 = 255)) (nextR (nextR r).2).2) else if (nextR (nextR r).2).1 = 0 then (acc, askR (decide ((nextR (nextR r).2).1 = 0) || decide ((nextR (nextR r).2).1 = 255)) (nextR (nextR r).2).2) else strF n most (acc ++ [0]) (askR (decide ((nextR (nextR r).2).1 = 0) || decide ((nextR (nextR r).2).1 = 255)) (nextR (nextR r).2).2))
      else strF n most (acc ++ [(nextR r).1]) (nextR r).2 := by
    simp only [strF]; rw [if_neg (by rw [hf]; decide), e0]
  rw [e0] at hI2 hf
  clear e0
  refine next_ok hI2.rdr fun H3 hb3 hr3 => ?_
  have hI3 := hI2.step hb3 hr3
  have hn1 := nextR_len r
  have e8 : ∀ c : UInt8, ((c.toNat : Int) == 0) = decide (c = 0) := fun c => by
    rw [Bool.eq_iff_iff]; simp only [decide_eq_true_eq, beq_iff_eq]
    constructor
    · intro hh; exact UInt8.toNat_inj.1 (by have h0 : (0 : UInt8).toNat = 0 := rfl; omega)
    · rintro rfl; rfl
  have e9 : ∀ c : UInt8, ((c.toNat : Int) == 255) = decide (c = 255) := fun c => by
    rw [Bool.eq_iff_iff]; simp only [decide_eq_true_eq, beq_iff_eq]
    constructor
    · intro hh; exact UInt8.toNat_inj.1 (by have h0 : (255 : UInt8).toNat = 255 := rfl; omega)
    · rintro rfl; rfl
  -- what is done with one more byte
  have push : ∀ (r2 : RS) (H4 : Heap), strF n most (acc ++ [(nextR r).1]) r2 = strR most r0 → r2.s.length < r.s.length → StrI H H4 b x acc r2 →
      apd [.int .u8 0] 1 x [.int .u8 ((nextR r).1.toNat : Int)] 1 (fun r33 H34 => (∃ (n : Nat) (acc : Str) (r : RS), strF (n + 1) most acc r = strR most r0 ∧ r.s.length ≤ n ∧ acc.length + r.s.length ≤ 140737488355320 ∧ StrI H H34 b r33 acc r) ∧ rdrLen H34 b < rdrLen H' b) H4 := by
    intro r2 H4 h1 h2 h3
    refine h3.push (by omega) fun x2 H5 h5 => ?_
    refine ⟨⟨n - 1, _, r2, ?_, by omega, by simp; omega, h5⟩, by rw [h5.rdr.len, hrl]; exact h2⟩
    rw [show n - 1 + 1 = n by omega]; exact h1
  refine ⟨fun _ H20 => apd [.int .u8 0] 1 x [.int .u8 ((nextR r).1.toNat : Int)] 1 (fun r33 H34 => (∃ (n : Nat) (acc : Str) (r : RS), strF (n + 1) most acc r = strR most r0 ∧ r.s.length ≤ n ∧ acc.length + r.s.length ≤ 140737488355320 ∧ StrI H H34 b r33 acc r) ∧ rdrLen H34 b < rdrLen H' b) H20, ?_, fun _ H20 h20 => h20⟩
  rw [e8]
  refine ift.of (fun hz => ?_) (fun hz => ?_)
  · have hz := of_decide_eq_true hz
    rw [if_pos hz] at he2
    refine next_ok hr3 fun H4 hb4 hr4 => ?_
    have hI4 := hI3.step hb4 hr4
    have hn2 := nextR_len (nextR r).2
    rw [e8, e9]
    refine ask_ok hr4 fun H5 hb5 hr5 => ?_
    have hI5 := hI4.step hb5 hr5
    generalize hzz : askR (decide ((nextR (nextR r).2).1 = 0) || decide ((nextR (nextR r).2).1 = 255)) (nextR (nextR r).2).2 = z at *
    refine ift.of (fun hf5 => ?_) (fun hf5 => ?_)
    · have hf5 : z.f = true := by simpa using hf5
      rw [if_pos hf5, he] at he2
      rw [he2]
      exact ⟨hI5.but, hI5.rdr, rfl⟩
    · have hf5 : z.f = false := by simpa using hf5
      rw [if_neg (by rw [hf5]; decide)] at he2
      refine ift.of (fun ha => ?_) (fun ha => ?_)
      · have ha := of_decide_eq_true ha
        rw [if_pos ha, he] at he2
        refine b2s_of (s := acc) hI5.own.rdsl hxl ?_
        have := k H5 hI5.but (by rw [he2]; exact hI5.rdr)
        rw [he2] at this
        exact this
      · have ha := of_decide_eq_false ha
        rw [if_neg ha, he] at he2
        rw [← hzz] at hf5
        have hq := (askR_f hf5).2
        have hzs : z = (nextR (nextR r).2).2 := by rw [← hzz, hq]
        rw [hq] at hf5
        have h22 := hn2.2 hf5
        refine push z H5 ?_ (by rw [hzs]; omega) hI5
        rw [hz]; exact he2.symm
  · have hz := of_decide_eq_false hz
    rw [if_neg hz, he] at he2
    have hf3 : (nextR r).2.f = false := by
      unfold nextR at hz ⊢
      split
      · rename_i hff; rw [if_pos hff] at hz; exact absurd rfl hz
      · exact hf
    exact push _ H3 he2.symm (hn1.2 hf3) hI3
end
end Sx
set_option linter.unusedVariables false
set_option linter.unusedSimpArgs false
set_option maxRecDepth 10000
namespace Sx
open Go Go.Proofs
theorem ex_ct : Ct 300 = [2, 1, 44] := by kernel_rfl
theorem ex_nm : Nm (-1) = [127] := by kernel_rfl
theorem ex_tx : Tx [97, 0] = [97, 0, 255, 0, 0] := by kernel_rfl
theorem ex_r1 : countR 300 ⟨[2, 1, 44, 127, 97, 0, 255, 0, 0, 1], 0, false⟩ = (300, ⟨[127, 97, 0, 255, 0, 0, 1], 0, false⟩) := by kernel_rfl
theorem ex_r2 : numR ⟨[127, 97, 0, 255, 0, 0, 1], 0, false⟩ = (-1, ⟨[97, 0, 255, 0, 0, 1], 0, false⟩) := by kernel_rfl
theorem ex_r3 : strR 2 ⟨[97, 0, 255, 0, 0, 1], 0, false⟩ = ([97, 0], ⟨[1], 0, false⟩) := by kernel_rfl
theorem ex_r4 : flagR ⟨[1], 0, false⟩ = (true, ⟨[], 0, false⟩) := by kernel_rfl

section
variable {C : Ctx} {H : Heap}
theorem rdsl_none {H : Heap} : rdsl H Sl.nil (bytesV []) := .inl rfl

theorem works_ok {K : Bool → Heap → Prop} (k : ∀ H2, H.le H2 → K true H2) : c_law03_works C K H := by
  apply ad_law03_works
  unfold sh_law03_works
  refine code_Count_ok (a := []) rdsl_none rfl (by decide) fun r1 H1 h1 => ?_
  rw [ex_ct] at h1
  refine code_Num_ok (a := [2, 1, 44]) h1.own.rdsl h1.lenB (by omega) (by omega) (by decide) fun r2 H2 h2 => ?_
  rw [ex_nm] at h2
  refine code_Str_ok (a := [2, 1, 44, 127]) h2.own.rdsl h2.lenB (by decide) fun r3 H3 h3 => ?_
  rw [ex_tx] at h3
  refine code_Flag_ok (a := [2, 1, 44, 127, 97, 0, 255, 0, 0]) h3.own.rdsl h3.lenB (by decide) fun r4 H4 h4 => ?_
  refine NewReader_ok (a := [2, 1, 44, 127, 97, 0, 255, 0, 0, 1]) h4.own.rdsl h4.lenB (by decide) fun b H5 hb hle hr => ?_
  refine b2s_of (s := [2, 1, 44, 127, 97, 0, 255, 0, 0, 1]) (rdsl_le hle h4.own.rdsl) h4.lenB ?_
  have hle5 : H.le H4 := ((h1.le.trans h2.le).trans h3.le).trans h4.le
  have hnb : H b = none := hle5.none hb
  have hle5 := hle5.trans hle
  apply jn.inl
  refine ift_pos (by decide) (readCount_ok hr fun H6 hb6 hr6 => ?_)
  rw [ex_r1] at hr6 ⊢
  apply jn.inl
  refine ift_pos rfl (readNum_ok hr6 fun H7 hb7 hr7 => ?_)
  rw [ex_r2] at hr7 ⊢
  apply jn.inl
  refine ift_pos rfl (readStr_ok hr7 (by decide) fun H8 hb8 hr8 => ?_)
  rw [ex_r3] at hr8 ⊢
  apply jn.inl
  refine ift_pos (by decide) (done_ok hr8 ?_)
  apply jn.inl
  refine ift_pos rfl (readFlag_ok hr8 fun H9 hb9 hr9 => ?_)
  rw [ex_r4] at hr9 ⊢
  apply jn.inl
  refine ift_pos rfl (done_ok hr9 ?_)
  exact k _ (hle5.of_but (((hb6.trans hb7).trans hb8).trans hb9) hnb)

theorem law_behind_ok {p q : Sl} {a c : Str} {K : Sl → Heap → Prop} (hp : rdsl H p (bytesV a)) (hpl : p.len = a.length) (hq : rdsl H q (bytesV c)) (hql : q.len = c.length) (hm : a.length + c.length ≤ 140737488355328)
    (k : ∀ r H2, OwnF H H2 1 r (bytesV (a ++ c)) → K r H2) : c_law03_behind C p q K H := by
  apply ad_law03_behind
  unfold sh_law03_behind
  intro b hb
  refine apS_bytes (a := []) (ownF_empty hb) (rdsl_le (Heap.le_put hb) hp) hpl (by simp; omega) fun r H2 h2 _ => ?_
  refine apS_bytes h2 (rdsl_le h2.le hq) hql (by simpa using hm) fun r3 H3 h3 _ => ?_
  exact k r3 H3 (by simpa using h3)

end
end Sx
set_option linter.unusedVariables false
set_option linter.unusedSimpArgs false
set_option maxRecDepth 10000
namespace Sx
open Go Go.Proofs
/-- less at a place that both have -/
inductive Lt : Str → Str → Prop
  | head {c d : UInt8} {s t : Str} (h : c < d) : Lt (c :: s) (d :: t)
  | tail {c : UInt8} {s t : Str} (h : Lt s t) : Lt (c :: s) (c :: t)

theorem xor255 : ∀ c : UInt8, (c ^^^ 255).toNat = 255 - c.toNat := by
  intro c
  have : ∀ i : Fin 256, ((UInt8.ofNat i.val) ^^^ 255).toNat = 255 - (UInt8.ofNat i.val).toNat := by decide +kernel
  have h := this ⟨c.toNat, u8_lt c⟩
  simpa using h
theorem Lt.flip {s t : Str} (h : Lt s t) : Lt (t.map (· ^^^ 255)) (s.map (· ^^^ 255)) := by
  induction h with
  | @head c d s t h =>
    refine .head ?_
    have h1 : c.toNat < d.toNat := h
    have := u8_lt c; have := u8_lt d
    show (d ^^^ 255).toNat < (c ^^^ 255).toNat
    rw [xor255, xor255]; omega
  | tail _ ih => exact .tail ih

def zc (s : Str) : Nat := (s.filter (· == 0)).length
end Sx
set_option linter.unusedVariables false
set_option linter.unusedSimpArgs false
set_option maxRecDepth 10000
namespace Sx
open Go Go.Proofs
section
variable {C : Ctx} {H : Heap}
end
end Sx
set_option linter.unusedVariables false
set_option linter.unusedSimpArgs false
set_option maxRecDepth 10000
namespace Sx
open Go Go.Proofs
section
variable {C : Ctx} {H : Heap}
end
end Sx
set_option linter.unusedVariables false
set_option linter.unusedSimpArgs false
set_option maxRecDepth 10000
namespace Sx
open Go Go.Proofs
section
variable {C : Ctx} {H0 H : Heap}
end
end Sx
set_option linter.unusedVariables false
set_option linter.unusedSimpArgs false
set_option maxRecDepth 10000
namespace Sx
open Go Go.Proofs
theorem V.ext {v w : V} (h1 : v.k = w.k) (h2 : v.n = w.n) (h3 : v.s = w.s) (h4 : v.l = w.l) : v = w := by
  obtain ⟨k, n, s, l⟩ := v
  obtain ⟨k', n', s', l'⟩ := w
  simp only [V.k, V.n, V.s, V.l] at h1 h2 h3 h4
  rw [h1, h2, h3, h4]
end Sx
set_option linter.unusedVariables false
set_option linter.unusedSimpArgs false
set_option maxRecDepth 10000
namespace Sx
open Go Go.Proofs
mutual
def pt : V → Nat
  | .mk k n s l => pts l + (s.length / 64 + 1)
def pts : List V → Nat
  | [] => 0
  | v :: l => pt v + pts l
end
section
variable {C : Ctx} {H : Heap}
end
end Sx
set_option linter.unusedVariables false
set_option linter.unusedSimpArgs false
set_option maxRecDepth 10000
namespace Sx
open Go Go.Proofs
section
variable {C : Ctx} {H : Heap}
end
end Sx
set_option linter.unusedVariables false
set_option linter.unusedSimpArgs false
set_option maxRecDepth 10000
namespace Sx
open Go Go.Proofs
def digF : Nat → Str → RS → Str × RS
  | 0, acc, r => (acc, r)
  | k + 1, acc, r => digF k (acc ++ [(nextR r).1]) (nextR r).2
def bigR (r : RS) : Str × RS :=
  let c := (nextR r).1
  let below := decide (c = 127)
  let z := askR (below || decide (c = 128)) (nextR r).2
  let q := countR 200 (flipR below z)
  let d := digF q.1.toNat [] q.2
  ((if below then [45] else []) ++ d.1, flipR below d.2)
def listF (val : RS → V × RS) : Nat → UInt8 → List V → RS → List V × RS
  | 0, _, acc, r => (acc, r)
  | n + 1, c, acc, r =>
    if c = 0 then (acc, r)
    else
      let z := askR (decide (c = 1) && decide (acc.length < 16)) r
      if z.f then listF val n (nextR z).1 acc (nextR z).2
      else listF val n (nextR (val z).2).1 (acc ++ [(val z).1]) (nextR (val z).2).2
def listR (val : RS → V × RS) (r : RS) : List V × RS := listF val (r.s.length + 2) (nextR r).1 [] (nextR r).2
/-- k: 65 less how deep -/
def valD : Nat → RS → V × RS
  | 0, r => (.mk ((nextR r).1.toNat : Int) 0 [] [], askR false (nextR r).2)
  | k + 1, r =>
    let c := (nextR r).1
    let z := askR (decide (1 ≤ c.toNat) && decide (c.toNat ≤ 6)) (nextR r).2
    if z.f then (.mk (c.toNat : Int) 0 [] [], z)
    else if c = 1 then (.mk 1 (if (flagR z).1 then 1 else 0) [] [], (flagR z).2)
    else if c = 2 then (.mk 2 (numR z).1 [] [], (numR z).2)
    else if c = 3 then (.mk 3 0 (bigR z).1 [], (bigR z).2)
    else if c = 4 then (.mk 4 0 (strR 4096 z).1 [], (strR 4096 z).2)
    else if c = 5 then (.mk 5 0 [] (listR (valD k) z).1, (listR (valD k) z).2)
    else (.mk 6 0 (strR 4096 z).1 (listR (valD k) (strR 4096 z).2).1, (listR (valD k) (strR 4096 z).2).2)

def Heap.new (H H2 : Heap) : Heap := fun x => if (H x).isSome then none else H2 x
theorem Heap.new_some {H H2 : Heap} {x : Nat} {e : Bool × GO} (h : H2 x = some e) (hn : H x = none) : Heap.new H H2 x = some e := by
  unfold Heap.new; rw [hn]; exact h
theorem Heap.new_inv {H H2 : Heap} {x : Nat} {e : Bool × GO} (h : Heap.new H H2 x = some e) : H x = none ∧ H2 x = some e := by
  unfold Heap.new at h
  cases hx : H x with
  | none => rw [hx] at h; exact ⟨rfl, h⟩
  | some v => rw [hx] at h; cases h
theorem Heap.new_le {H H2 : Heap} : (Heap.new H H2).le H2 := fun x e h => (Heap.new_inv h).2
end Sx
set_option linter.unusedVariables false
set_option linter.unusedSimpArgs false
set_option maxRecDepth 10000
namespace Sx
open Go Go.Proofs
/-- the value under way, at a place -/
def At (H : Heap) (c : Nat) (y : TV) : Prop := H c = some (true, .row (T_api_Value.c y))
def But2 (b c : Nat) (A B : Heap) : Prop := ∀ x e, x ≠ b → x ≠ c → A x = some e → B x = some e
theorem But2.refl (b c : Nat) (A : Heap) : But2 b c A A := fun _ _ _ _ h => h
theorem But2.trans {b c : Nat} {A B D : Heap} (h : But2 b c A B) (h2 : But2 b c B D) : But2 b c A D := fun x e h1 h3 hx => h2 x e h1 h3 (h x e h1 h3 hx)
theorem But2.of {b c : Nat} {A B : Heap} (h : Heap.but b A B) : But2 b c A B := fun x e h1 _ hx => h x e h1 hx
theorem At.but {b c : Nat} {A B : Heap} {y : TV} (h : At A c y) (hb : Heap.but b A B) (hn : c ≠ b) : At B c y := hb _ _ hn h
theorem Rdr.beside {A : Heap} {b c : Nat} {r : RS} {e : GO} {g : GO} (h : Rdr A b r) (hc : A c = some (true, e)) (hn : c ≠ b) : Rdr (A.put c g) b r := by
  obtain ⟨sl, h1, h2, h3, h4⟩ := h.ok
  exact ⟨sl, by rw [Heap.put_ne _ _ _ (Ne.symm hn)]; exact h1, h2, h3, h4.ext (ext_put_own hc)⟩
theorem At.put {A : Heap} {c : Nat} {y y2 : TV} (h : At A c y) : At (A.put c (.row (T_api_Value.c y2))) c y2 := Heap.put_same ..
theorem But2.put (b c : Nat) (A : Heap) (g : GO) : But2 b c A (A.put c g) := fun x e _ h hx => by rw [Heap.put_ne _ _ _ h]; exact hx

section
variable {C : Ctx} {H : Heap}
/-- what a method leaves: the reader, the value -/
structure Left (H H2 : Heap) (b c : Nat) (r : RS) (y : TV) : Prop where
  but : But2 b c H H2
  rdr : Rdr H2 b r
  at_ : At H2 c y
theorem Left.start {b c : Nat} {r : RS} {y : TV} (h : Rdr H b r) (ha : At H c y) : Left H H b c r y := ⟨But2.refl b c H, h, ha⟩
theorem Left.step {A : Heap} {b c : Nat} {r r2 : RS} {y : TV} {B : Heap} (h : Left H A b c r y) (hb : Heap.but b A B) (hr : Rdr B b r2) (hn : c ≠ b) : Left H B b c r2 y := ⟨h.but.trans (But2.of hb), hr, h.at_.but hb hn⟩
theorem Left.set {A : Heap} {b c : Nat} {r : RS} {y y2 : TV} (h : Left H A b c r y) (hn : c ≠ b) : Left H (A.put c (.row (T_api_Value.c y2))) b c r y2 := ⟨h.but.trans (But2.put b c A _), h.rdr.beside h.at_ hn, h.at_.put⟩

theorem rdTruth_ok {b c : Nat} {r : RS} {y : TV} {d : Int} {K : Heap → Prop} (h : Rdr H b r) (ha : At H c y) (hn : c ≠ b) (k : ∀ H2, Left H H2 b c (flagR r).2 { y with N := if (flagR r).1 then 1 else y.N } → K H2) : c_code_Reader_truth C (some (b, 0)) (some (c, 0)) d K H := by
  apply ad_code_Reader_truth
  unfold sh_code_Reader_truth
  refine readFlag_ok h fun H2 hb hr => ?_
  have hL := (Left.start h ha).step hb hr hn
  refine ift.of (fun hh => ?_) (fun hh => ?_)
  · refine ⟨_, rfl, _, hL.at_, by simp [T_api_Value.c], k _ ?_⟩
    rw [if_pos hh]
    exact hL.set hn (y2 := { y with N := 1 })
  · refine k _ ?_
    rw [if_neg (by rw [hh]; decide)]; exact hL

theorem rdWhole_ok {b c : Nat} {r : RS} {y : TV} {d : Int} {K : Heap → Prop} (h : Rdr H b r) (ha : At H c y) (hn : c ≠ b) (k : ∀ H2, Left H H2 b c (numR r).2 { y with N := (numR r).1 } → K H2) : c_code_Reader_whole C (some (b, 0)) (some (c, 0)) d K H := by
  apply ad_code_Reader_whole
  unfold sh_code_Reader_whole
  refine readNum_ok h fun H2 hb hr => ?_
  have hL := (Left.start h ha).step hb hr hn
  exact ⟨_, rfl, _, hL.at_, by simp [T_api_Value.c], k _ (hL.set hn (y2 := { y with N := (numR r).1 }))⟩

theorem rdWords_ok {b c : Nat} {r : RS} {y : TV} {d : Int} {K : Heap → Prop} (h : Rdr H b r) (hl : r.s.length ≤ 140737488355320) (ha : At H c y) (hn : c ≠ b) (k : ∀ H2, Left H H2 b c (strR 4096 r).2 { y with S := (strR 4096 r).1 } → K H2) : c_code_Reader_words C (some (b, 0)) (some (c, 0)) d K H := by
  apply ad_code_Reader_words
  unfold sh_code_Reader_words
  refine readStr_ok h hl fun H2 hb hr => ?_
  have hL := (Left.start h ha).step hb hr hn
  exact ⟨_, rfl, _, hL.at_, by simp [T_api_Value.c], k _ (hL.set hn (y2 := { y with S := (strR 4096 r).1 }))⟩

theorem digF_len : ∀ (k : Nat) (acc : Str) (r : RS), (digF k acc r).1.length = acc.length + k
  | 0, acc, r => rfl
  | k + 1, acc, r => by simp only [digF]; rw [digF_len]; simp; omega
theorem countR_le {m : Int} {r : RS} (hm : 0 ≤ m) : 0 ≤ (countR m r).1 ∧ (countR m r).1 ≤ m := by
  unfold countR
  dsimp only
  split
  · exact ⟨Int.le_refl _, hm⟩
  · rename_i hf
    have hf : (askR (decide (0 ≤ m) && decide ((numberR ((nextR r).1.toNat : Int) 4 (nextR r).2).1 ≤ 2147483647) && decide (((numberR ((nextR r).1.toNat : Int) 4 (nextR r).2).1 : Int) ≤ m)) (numberR ((nextR r).1.toNat : Int) 4 (nextR r).2).2).f = false := by simpa using hf
    have := (askR_f hf).1
    simp only [Bool.and_eq_true, decide_eq_true_eq] at this
    exact ⟨by omega, this.2⟩
theorem rdBig_ok {b c : Nat} {r : RS} {y : TV} {d : Int} {K : Heap → Prop} (h : Rdr H b r) (ha : At H c y) (hn : c ≠ b) (hy : y.S = []) (k : ∀ H2, Left H H2 b c (bigR r).2 { y with S := (bigR r).1 } → K H2) : c_code_Reader_big C (some (b, 0)) (some (c, 0)) d K H := by
  apply ad_code_Reader_big
  unfold sh_code_Reader_big
  refine next_ok h fun H2 hb2 hr2 => ?_
  have e127 : (((nextR r).1.toNat : Int) == 127) = decide ((nextR r).1 = 127) := u8eq _ 127 (by omega)
  have e128 : (((nextR r).1.toNat : Int) == 128) = decide ((nextR r).1 = 128) := u8eq _ 128 (by omega)
  rw [e127, e128]
  have hbig : bigR r = ((if decide ((nextR r).1 = 127) then [45] else []) ++ (digF (countR 200 (flipR (decide ((nextR r).1 = 127)) (askR (decide ((nextR r).1 = 127) || decide ((nextR r).1 = 128)) (nextR r).2))).1.toNat [] (countR 200 (flipR (decide ((nextR r).1 = 127)) (askR (decide ((nextR r).1 = 127) || decide ((nextR r).1 = 128)) (nextR r).2))).2).1, flipR (decide ((nextR r).1 = 127)) (digF (countR 200 (flipR (decide ((nextR r).1 = 127)) (askR (decide ((nextR r).1 = 127) || decide ((nextR r).1 = 128)) (nextR r).2))).1.toNat [] (countR 200 (flipR (decide ((nextR r).1 = 127)) (askR (decide ((nextR r).1 = 127) || decide ((nextR r).1 = 128)) (nextR r).2))).2).2) := rfl
  rw [hbig] at k
  have hL2 := (Left.start h ha).step hb2 hr2 hn
  clear hbig
  generalize decide ((nextR r).1 = 127) = below at *
  refine ask_ok hr2 fun H3 hb3 hr3 => ?_
  have hL3 := hL2.step hb3 hr3 hn
  generalize askR (below || decide ((nextR r).1 = 128)) (nextR r).2 = z at *
  refine ⟨fun _ H' => Left H H' b c z { y with S := if below then [45] else [] }, ?_, ?_⟩
  · refine ift.of (fun hh => ?_) (fun hh => ?_)
    · refine ⟨_, rfl, _, hL3.at_, by simp [T_api_Value.c], ?_⟩
      rw [if_pos hh]
      exact hL3.set hn (y2 := { y with S := [45] })
    · rw [if_neg (by rw [hh]; decide)]
      have : ({ y with S := ([] : Str) } : TV) = y := by rw [← hy]
      rw [this]; exact hL3
  rintro _ H4 hL4
  refine flip_ok hL4.rdr fun H5 hb5 hr5 => ?_
  have hL5 := hL4.step hb5 hr5 hn
  refine readCount_ok hr5 fun H6 hb6 hr6 => ?_
  have hL6 := hL5.step hb6 hr6 hn
  have hc := countR_le (m := 200) (r := flipR below z) (by omega)
  generalize countR 200 (flipR below z) = q at *
  obtain ⟨n, q⟩ := q
  dsimp only at *
  obtain ⟨n, rfl⟩ := Int.eq_ofNat_of_zero_le hc.1
  refine ⟨fun x H' => ∃ (i : Nat) (acc : Str) (u : RS), x.2 = (i : Int) ∧ i ≤ n ∧ acc.length = i ∧ digF (n - i) acc u = digF n [] q ∧ StrI H6 H' b x.1 acc u, fun x _ => n - x.2.toNat, ⟨0, [], q, rfl, Nat.zero_le _, rfl, rfl, Heap.but.refl _ _, hr6, Own.nil _ _, Fresh.nil _, fun p hp => by cases hp⟩, ?_⟩
  rintro ⟨x1, x2⟩ H7 ⟨i, acc, u, hx, hi, hal, hd, hI⟩
  dsimp only at hx hI
  subst hx
  dsimp only
  refine ift.of (fun hh => ?_) (fun hh => ?_)
  · have hlt : i < n := by have := of_decide_eq_true hh; omega
    refine next_ok hI.rdr fun H8 hb8 hr8 => ?_
    refine (hI.step hb8 hr8).push (by omega) fun x3 H9 hI9 => ?_
    rw [w_i64 (by omega) (by omega)]
    refine ⟨⟨i + 1, acc ++ [(nextR u).1], (nextR u).2, rfl, by omega, by simp; omega, ?_, hI9⟩, by first | omega | (dsimp only; omega)⟩
    rw [← hd, show n - i = (n - (i + 1)) + 1 by omega]; rfl
  · have hie : i = n := by have := of_decide_eq_false hh; omega
    subst hie
    rw [Nat.sub_self] at hd
    have hd : digF i [] q = (acc, u) := hd.symm
    have hL7 := hL6.step hI.but hI.rdr hn
    refine flip_ok hI.rdr fun H8 hb8 hr8 => ?_
    have hL8 := hL7.step hb8 hr8 hn
    have hI8 := hI.step hb8 hr8
    have e : (Int.ofNat i).toNat = i := rfl
    have hd' : digF ((i : Int)).toNat [] q = (acc, u) := by simpa using hd
    rw [hd'] at k
    refine ⟨H8, Heap.le.refl _, (c, 0), rfl, _, (rd_box hL8.at_).2.2.1, b2s_of hI8.own.rdsl hI8.own.off.lenB ?_⟩
    refine ⟨by unfold catOk; dsimp only; split <;> simp <;> omega, (c, 0), rfl, _, hL8.at_, by simp [T_api_Value.c], k _ ?_⟩
    exact hL8.set hn (y2 := { y with S := (if below then [45] else []) ++ acc })
end
end Sx
set_option linter.unusedVariables false
set_option linter.unusedSimpArgs false
set_option maxRecDepth 10000
namespace Sx
open Go Go.Proofs
theorem askR_le (ok : Bool) (r : RS) : (askR ok r).s.length ≤ r.s.length := by unfold askR; split <;> simp
theorem flipR_le (is : Bool) (r : RS) : (flipR is r).s.length = r.s.length := by unfold flipR; split <;> rfl
theorem nextR_le (r : RS) : (nextR r).2.s.length ≤ r.s.length := (nextR_len r).1
theorem numL_le : ∀ (k i u : Nat) (r : RS), (numL k i u r).2.s.length ≤ r.s.length
  | 0, i, u, r => Nat.le_refl _
  | k + 1, i, u, r => by
    simp only [numL]
    exact Nat.le_trans (numL_le k _ _ _) (Nat.le_trans (askR_le _ _) (nextR_le r))
theorem numberR_le (k m : Int) (r : RS) : (numberR k m r).2.s.length ≤ r.s.length := by
  unfold numberR
  split
  · exact askR_le _ _
  · exact Nat.le_trans (numL_le _ _ _ _) (askR_le _ _)
theorem numR_le (r : RS) : (numR r).2.s.length ≤ r.s.length := by
  unfold numR
  dsimp only
  refine Nat.le_trans (askR_le _ _) ?_
  rw [flipR_le]
  refine Nat.le_trans (numberR_le _ _ _) ?_
  rw [flipR_le]
  exact nextR_le r
theorem countR_len (m : Int) (r : RS) : (countR m r).2.s.length ≤ r.s.length := by
  unfold countR
  dsimp only
  exact Nat.le_trans (askR_le _ _) (Nat.le_trans (numberR_le _ _ _) (nextR_le r))
theorem flagR_le (r : RS) : (flagR r).2.s.length ≤ r.s.length := by
  unfold flagR
  dsimp only
  exact Nat.le_trans (askR_le _ _) (nextR_le r)
theorem strF_le : ∀ (n : Nat) (m : Int) (acc : Str) (r : RS), (strF n m acc r).2.s.length ≤ r.s.length
  | 0, m, acc, r => Nat.le_refl _
  | n + 1, m, acc, r => by
    simp only [strF]
    have h1 := askR_le (decide ((acc.length : Int) ≤ m)) r
    have h2 := nextR_le (askR (decide ((acc.length : Int) ≤ m)) r)
    have h3 := nextR_le (nextR (askR (decide ((acc.length : Int) ≤ m)) r)).2
    generalize (nextR (askR (decide ((acc.length : Int) ≤ m)) r)) = p at *
    generalize nextR p.2 = q at *
    have h4 := askR_le (decide (q.1 = 0) || decide (q.1 = 255)) q.2
    split
    · exact h1
    · split
      · split
        · (dsimp only; omega)
        · split
          · dsimp only; omega
          · have := strF_le n m (acc ++ [0]) (askR (decide (q.1 = 0) || decide (q.1 = 255)) q.2)
            omega
      · have := strF_le n m (acc ++ [p.1]) p.2
        omega
theorem strR_le (m : Int) (r : RS) : (strR m r).2.s.length ≤ r.s.length := strF_le _ _ _ _
theorem digF_le : ∀ (k : Nat) (acc : Str) (r : RS), (digF k acc r).2.s.length ≤ r.s.length
  | 0, acc, r => Nat.le_refl _
  | k + 1, acc, r => by simp only [digF]; exact Nat.le_trans (digF_le k _ _) (nextR_le r)
theorem bigR_le (r : RS) : (bigR r).2.s.length ≤ r.s.length := by
  unfold bigR
  dsimp only
  rw [flipR_le]
  refine Nat.le_trans (digF_le _ _ _) (Nat.le_trans (countR_len _ _) ?_)
  rw [flipR_le]
  exact Nat.le_trans (askR_le _ _) (nextR_le r)
theorem listF_le (val : RS → V × RS) (hv : ∀ r, (val r).2.s.length ≤ r.s.length) : ∀ (n : Nat) (c : UInt8) (acc : List V) (r : RS), (listF val n c acc r).2.s.length ≤ r.s.length
  | 0, c, acc, r => Nat.le_refl _
  | n + 1, c, acc, r => by
    simp only [listF]
    have h1 := askR_le (decide (c = 1) && decide (acc.length < 16)) r
    generalize askR (decide (c = 1) && decide (acc.length < 16)) r = z at *
    split
    · exact Nat.le_refl _
    · split
      · have := listF_le val hv n (nextR z).1 acc (nextR z).2
        have := nextR_le z
        omega
      · have := listF_le val hv n (nextR (val z).2).1 (acc ++ [(val z).1]) (nextR (val z).2).2
        have := nextR_le (val z).2
        have := hv z
        omega
theorem listR_le (val : RS → V × RS) (hv : ∀ r, (val r).2.s.length ≤ r.s.length) (r : RS) : (listR val r).2.s.length ≤ r.s.length := Nat.le_trans (listF_le val hv _ _ _ _) (nextR_le r)
theorem valD_le : ∀ (k : Nat) (r : RS), (valD k r).2.s.length ≤ r.s.length
  | 0, r => Nat.le_trans (askR_le _ _) (nextR_le r)
  | k + 1, r => by
    simp only [valD]
    have h1 := Nat.le_trans (askR_le (decide (1 ≤ (nextR r).1.toNat) && decide ((nextR r).1.toNat ≤ 6)) (nextR r).2) (nextR_le r)
    generalize askR (decide (1 ≤ (nextR r).1.toNat) && decide ((nextR r).1.toNat ≤ 6)) (nextR r).2 = z at *
    have h2 := flagR_le z
    have h3 := numR_le z
    have h4 := bigR_le z
    have h5 := strR_le 4096 z
    have h6 := listR_le (valD k) (valD_le k) z
    have h7 := listR_le (valD k) (valD_le k) (strR 4096 z).2
    repeat' split
    all_goals (dsimp only; omega)
end Sx
set_option linter.unusedVariables false
set_option linter.unusedSimpArgs false
set_option maxRecDepth 10000
namespace Sx
open Go Go.Proofs
section
variable {C : Ctx} {H : Heap}
/-- the reader reads a value, 65 - k deep -/
def RdV (C : Ctx) (b : Nat) (k : Nat) : Prop := ∀ {H : Heap} {r : RS} {K : TV → Heap → Prop}, Rdr H b r → r.s.length ≤ 140737488355320 → (∀ H2 x, Heap.but b H H2 → Rdr H2 b (valD k r).2 → VIs (Heap.new H H2) (valD k r).1 x → K x H2) → c_code_Reader_value C (some (b, 0)) (65 - (k : Int)) K H

/-- where the loop of list stands -/
structure LI (H H' : Heap) (b : Nat) (s : Sl) (l : List V) (u : RS) : Prop where
  but : Heap.but b H H'
  rdr : Rdr H' b u
  fresh : Fresh H s
  own : ∃ xs : List TV, Own H' 4 s (xs.flatMap T_api_Value.c) ∧ VsAre ((Heap.new H H').off s) l xs
theorem cs_len (xs : List TV) : (xs.flatMap T_api_Value.c).length = xs.length * 4 := by
  induction xs with
  | nil => rfl
  | cons x xs ih => rw [List.flatMap_cons, List.length_append, ih]; simp [T_api_Value.c]; omega
theorem LI.len {H' : Heap} {b : Nat} {s : Sl} {l : List V} {u : RS} (h : LI H H' b s l u) : s.len = l.length := by
  obtain ⟨xs, h1, h2⟩ := h.own
  have := h1.1
  rw [cs_len] at this
  have := h2.len
  omega
theorem LI.ne {H' : Heap} {b : Nat} {s : Sl} {l : List V} {u : RS} (h : LI H H' b s l u) (hb : ∃ e, H b = some e) : ∀ p, s.p = some p → p.1 ≠ b := fun p hp e => by
  obtain ⟨e', he⟩ := hb
  have := h.fresh p hp
  rw [e, he] at this; cases this
theorem dom_but {b : Nat} {A B : Heap} (h : Heap.but b A B) (hb : ∃ e, B b = some e) {x : Nat} (hx : ∃ e, A x = some e) : ∃ e, B x = some e := by
  by_cases e : x = b
  · subst e; exact hb
  · obtain ⟨v, hv⟩ := hx
    exact ⟨v, h x v e hv⟩
theorem LI.step {H' H2 : Heap} {b : Nat} {s : Sl} {l : List V} {u u2 : RS} (h : LI H H' b s l u) (hb : ∃ e, H b = some e) (hbut : Heap.but b H' H2) (hr : Rdr H2 b u2) : LI H H2 b s l u2 := by
  obtain ⟨xs, h1, h2⟩ := h.own
  have hne := h.ne hb
  refine ⟨h.but.trans hbut, hr, h.fresh, xs, h1.but hbut hne, h2.le fun x e hx => ?_⟩
  have hx' := Heap.off_le s _ _ _ hx
  obtain ⟨hn, hx2⟩ := Heap.new_inv hx'
  have hxb : x ≠ b := fun e' => by subst e'; obtain ⟨v, hv⟩ := hb; rw [hn] at hv; cases hv
  refine Heap.off_some (Heap.new_some (hbut _ _ hxb hx2) hn) fun p hp e' => ?_
  have := Heap.off_fresh s (Heap.new H H') p hp
  rw [e', hx] at this; cases this

theorem LI.push {H' H2 : Heap} {b : Nat} {s : Sl} {l : List V} {u u2 : RS} {v : V} {x : TV} {K : Sl → Heap → Prop} (h : LI H H' b s l u) (hb : ∃ e, H b = some e) (hbut : Heap.but b H' H2) (hr : Rdr H2 b u2) (hv : VIs (Heap.new H' H2) v x) (hl : l.length ≤ 100)
    (k : ∀ s2 H3, LI H H3 b s2 (l ++ [v]) u2 → K s2 H3) : apd (T_api_Value.c T_api_Value.zero) 56 s (T_api_Value.c x ++ []) 1 K H2 := by
  have h2 := h.step hb hbut hr
  have hne := h.ne hb
  have hsl := h.len
  obtain ⟨xs, g1, g2⟩ := h2.own
  obtain ⟨sl0, hrow, _⟩ := hr.ok
  refine apd_ownF (zc := T_api_Value.c T_api_Value.zero) g1.off (by simp [T_api_Value.c]) (by omega) (by omega) fun s2 H3 ho _ => k s2 H3 ?_
  have hrd := hr.off g1 hne
  have keep : ∀ y e, H y = some e → y ≠ b → (H2.off s) y = some e := fun y e hy hyb => by
    refine Heap.off_some (h2.but y e hyb hy) fun p hp e' => ?_
    have := h.fresh p hp
    rw [e', hy] at this; cases this
  have hbs : (H2.off s) b = some (true, .row [slv sl0, .int .u8 (u2.t.toNat : Int), .bool u2.f]) := Heap.off_some hrow hne
  have hne2 : ∀ p, s2.p = some p → p.1 ≠ b := fun p hp e' => by
    have := ho.fresh p hp
    rw [e', hbs] at this; cases this
  have els : ∀ {D : Heap}, D.le H2 → (∀ y e, D y = some e → H y = none ∧ ∀ p, s.p = some p → p.1 ≠ y) → D.le ((Heap.new H H3).off s2) := fun {D} hD hn y e hy => by
    obtain ⟨n1, n2⟩ := hn y e hy
    have h3 := Heap.off_some (hD y e hy) n2
    refine Heap.off_some (Heap.new_some (ho.le _ _ h3) n1) fun p hp e' => ?_
    have := ho.fresh p hp
    rw [e', h3] at this; cases this
  refine ⟨fun y e hyb hy => ho.le _ _ (keep y e hy hyb), hrd.le ho.le, fun p hp => ?_, xs ++ [x], ?_, ?_⟩
  · cases hy : H p.1 with
    | none => rfl
    | some e =>
      have h3 := keep p.1 e hy (hne2 p hp)
      have h4 := ho.fresh p hp
      rw [h3] at h4; cases h4
  · have h9 : Own H3 4 s2 (xs.flatMap T_api_Value.c ++ (T_api_Value.c x ++ [])) := ho.own
    rw [List.flatMap_append]
    simpa using h9
  · have hlx := g2.len
    refine VsAre.of (by simp [hlx]) fun i w z hw hz => ?_
    by_cases hi : i < l.length
    · rw [List.getElem?_append_left hi] at hw
      rw [List.getElem?_append_left (by omega)] at hz
      refine (g2.get i w z hw hz).le (els (fun y e hy => Heap.new_le _ _ (Heap.off_le s _ _ _ hy)) fun y e hy => ⟨(Heap.new_inv (Heap.off_le s _ _ _ hy)).1, fun p hp e' => ?_⟩)
      have := Heap.off_fresh s (Heap.new H H2) p hp
      rw [e', hy] at this; cases this
    · rw [List.getElem?_append_right (by omega)] at hw
      rw [List.getElem?_append_right (by omega)] at hz
      have h0 : i - l.length = 0 := by
        have := (List.getElem?_eq_some_iff.1 hw).1
        simp at this; omega
      rw [h0] at hw
      rw [← hlx, h0] at hz
      simp at hw hz
      subst hw; subst hz
      refine hv.le (els (fun y e hy => Heap.new_le _ _ hy) fun y e hy => ⟨?_, fun p hp e' => ?_⟩)
      · have h1 := (Heap.new_inv hy).1
        cases hy2 : H y with
        | none => rfl
        | some e2 =>
          obtain ⟨e3, he3⟩ := dom_but h.but (by obtain ⟨q, hq, _⟩ := h.rdr.ok; exact ⟨_, hq⟩) ⟨e2, hy2⟩
          rw [h1] at he3; cases he3
      · have h1 := (Heap.new_inv hy).1
        obtain ⟨xs0, q1, _⟩ := h.own
        obtain ⟨g, hg⟩ := q1.mine hp
        rw [e', h1] at hg; cases hg

theorem rdList_ok {b c : Nat} {k : Nat} {r : RS} {y : TV} {K : Heap → Prop} (ih : RdV C b k) (hk : k ≤ 64) (h : Rdr H b r) (hl : r.s.length ≤ 140737488355320) (ha : At H c y) (hn : c ≠ b) (kk : ∀ H2 s, Left H H2 b c (listR (valD k) r).2 { y with L := s } → VRow (Heap.new H H2) s (listR (valD k) r).1 → K H2) : c_code_Reader_list C (some (b, 0)) (some (c, 0)) (64 - (k : Int)) K H := by
  apply ad_code_Reader_list
  unfold sh_code_Reader_list
  have hb : ∃ e, H b = some e := by obtain ⟨q, hq, _⟩ := h.ok; exact ⟨_, hq⟩
  refine next_ok h fun H1 hb1 hr1 => ?_
  have hnl := nextR_le r
  refine ⟨fun x H' => ∃ (n : Nat) (ch : UInt8) (acc : List V) (u : RS), x.2 = (ch.toNat : Int) ∧ (ch ≠ 0 → u.s.length + 1 ≤ n) ∧ 1 ≤ n ∧ u.s.length ≤ r.s.length ∧ acc.length ≤ 16 ∧ listF (valD k) n ch acc u = listR (valD k) r ∧ LI H H' b x.1 acc u, fun x H' => 2 * rdrLen H' b + (if x.2 = 0 then 0 else 1), ⟨r.s.length + 2, (nextR r).1, [], (nextR r).2, rfl, fun _ => by omega, by omega, hnl, by simp, rfl, hb1, hr1, Fresh.nil _, [], Own.nil _ _, trivial⟩, ?_⟩
  rintro ⟨s, x2⟩ H2 ⟨n, ch, acc, u, hx, hn1, hn0, hul, hal, hF, hI⟩
  dsimp only at hx hI
  subst hx
  have e0 : ((ch.toNat : Int) != 0) = !decide (ch = 0) := by rw [bne, show ((ch.toNat : Int) == 0) = decide (ch = 0) from u8eq ch 0 (by omega)]
  have e1 : ((ch.toNat : Int) == 1) = decide (ch = 1) := u8eq ch 1 (by omega)
  have hc0 : ∀ d : UInt8, ((d.toNat : Int) = 0) ↔ d = 0 := fun d => by
    constructor
    · intro h; exact UInt8.toNat_inj.1 (by simpa using h)
    · rintro rfl; rfl
  have hsl := hI.len
  dsimp only
  rw [e0]
  obtain ⟨n, rfl⟩ : ∃ m, n = m + 1 := ⟨n - 1, by omega⟩
  simp only [listF] at hF
  refine ift.of (fun hh => ?_) (fun hh => ?_)
  · have hch : ch ≠ 0 := by simpa using hh
    have hn1 := hn1 hch
    rw [if_neg hch] at hF
    rw [e1, hsl]
    have e16 : decide ((acc.length : Int) < 16) = decide (acc.length < 16) := by rw [decide_eq_decide]; omega
    rw [e16]
    have hzl := askR_le (decide (ch = 1) && decide (acc.length < 16)) u
    have hlen0 := hI.rdr.len
    have hif : (if (ch.toNat : Int) = 0 then 0 else 1) = 1 := by rw [if_neg (by rw [hc0]; exact hch)]
    -- behind the element: the next byte
    have fin : ∀ {H3 : Heap} {s3 : Sl} {acc3 : List V} {u3 : RS}, LI H H3 b s3 acc3 u3 → u3.s.length ≤ u.s.length → acc3.length ≤ 16 → listF (valD k) n (nextR u3).1 acc3 (nextR u3).2 = listR (valD k) r → c_code_Reader_next C (some (b, 0)) (fun r19 H20 =>
        (∃ (n : Nat) (ch : UInt8) (acc : List V) (u : RS), r19 = (ch.toNat : Int) ∧ (ch ≠ 0 → u.s.length + 1 ≤ n) ∧ 1 ≤ n ∧ u.s.length ≤ r.s.length ∧ acc.length ≤ 16 ∧ listF (valD k) n ch acc u = listR (valD k) r ∧ LI H H20 b s3 acc u) ∧ 2 * rdrLen H20 b + (if r19 = 0 then 0 else 1) < 2 * rdrLen H2 b + 1) H3 := fun {H3 s3 acc3 u3} hL hu ha hf => by
      refine next_ok hL.rdr fun H4 hb4 hr4 => ?_
      have hnn := nextR_len u3
      have hl4 := hr4.len
      have hfz : (nextR u3).2.f = true → (nextR u3).1 = 0 := fun hf => by
        unfold nextR at hf ⊢
        split
        · rfl
        · rename_i h1
          rw [if_neg h1] at hf
          dsimp only at hf
          have h1' : (askR (decide (0 < u3.s.length)) u3).f = false := by simpa using h1
          rw [(askR_f h1').2] at h1'
          rw [hf] at h1'; cases h1'
      by_cases hz : (nextR u3).1 = 0
      · have hf1 : listF (valD k) 1 (nextR u3).1 acc3 (nextR u3).2 = listR (valD k) r := by
          rw [← hf]
          cases n with
          | zero => simp [listF, hz]
          | succ n => simp [listF, hz]
        refine ⟨⟨1, (nextR u3).1, acc3, (nextR u3).2, rfl, fun h => absurd hz h, Nat.le_refl _, by omega, ha, hf1, hL.step hb hb4 hr4⟩, ?_⟩
        · rw [if_pos ((hc0 _).2 hz), hl4, hlen0]; omega
      · have hlt := hnn.2 (by
          cases hq : (nextR u3).2.f with
          | false => rfl
          | true => exact absurd (hfz hq) hz)
        refine ⟨⟨n, (nextR u3).1, acc3, (nextR u3).2, rfl, fun _ => by omega, by omega, by omega, ha, hf, hL.step hb hb4 hr4⟩, ?_⟩
        rw [if_neg (by rw [hc0]; exact hz), hl4, hlen0]; omega
    refine ⟨fun s3 H3 => ∃ (acc3 : List V) (u3 : RS), LI H H3 b s3 acc3 u3 ∧ u3.s.length ≤ u.s.length ∧ acc3.length ≤ 16 ∧ listF (valD k) n (nextR u3).1 acc3 (nextR u3).2 = listR (valD k) r, ?_, ?_⟩
    rotate_left
    · rintro s3 H3 ⟨acc3, u3, q1, q2, q3, q4⟩
      rw [hif]
      exact fin q1 q2 q3 q4
    refine ask_ok hI.rdr fun H3 hb3 hr3 => ?_
    have hI3 := hI.step hb hb3 hr3
    cases hzf : (askR (decide (ch = 1) && decide (acc.length < 16)) u).f with
    | true =>
      rw [hzf] at hF
      exact ift_neg rfl ⟨acc, _, hI3, hzl, hal, by simpa using hF⟩
    | false =>
      rw [hzf] at hF
      have hal2 : acc.length < 16 := by
        have := (askR_f hzf).1
        simp only [Bool.and_eq_true, decide_eq_true_eq] at this
        exact this.2
      refine ift_pos rfl ?_
      have ed : w .i64 (64 - (k : Int) + 1) = 65 - (k : Int) := by rw [w_i64 (by omega) (by omega)]; omega
      rw [ed]
      refine ih hr3 (by omega) fun H4 z hb4 hr4 hv4 => ?_
      refine hI3.push hb hb4 hr4 hv4 (by omega) fun s5 H5 hI5 => ?_
      have hvl := valD_le k (askR (decide (ch = 1) && decide (acc.length < 16)) u)
      exact ⟨_, _, hI5, by omega, by simp; omega, by simpa using hF⟩
  · have hch : ch = 0 := by simpa using hh
    rw [if_pos hch] at hF
    have hne := hI.ne hb
    have haB := ha.but hI.but hn
    have hL : Left H H2 b c u y := ⟨But2.of hI.but, hI.rdr, haB⟩
    refine ⟨_, rfl, _, haB, by simp [T_api_Value.c], ?_⟩
    rw [← hF] at kk
    refine kk _ s (hL.set hn (y2 := { y with L := s })) ?_
    obtain ⟨xs, g1, g2⟩ := hI.own
    have hcx : ∀ x e, Heap.new H H2 x = some e → Heap.new H (H2.put c (.row (T_api_Value.c { y with L := s }))) x = some e := fun x e hx => by
      obtain ⟨q1, q2⟩ := Heap.new_inv hx
      have hxc : x ≠ c := fun e' => by subst e'; unfold At at ha; rw [q1] at ha; cases ha
      exact Heap.new_some (by rw [Heap.put_ne _ _ _ hxc]; exact q2) q1
    refine ⟨xs, ?_, by have := g1.1; rw [cs_len] at this; omega, g2.le fun x e hx => hcx x e (Heap.off_le s _ _ _ hx)⟩
    have hon : Own (Heap.new H H2) 4 s (xs.flatMap T_api_Value.c) := by
      obtain ⟨o1, o2, o3, o4 | ⟨bb, sp, o4, o5, o6⟩⟩ := g1
      · exact ⟨o1, o2, o3, .inl o4⟩
      · exact ⟨o1, o2, o3, .inr ⟨bb, sp, o4, Heap.new_some o5 (hI.fresh _ o4), o6⟩⟩
    exact rdsl_le hcx hon.rdsl
end
end Sx
set_option linter.unusedVariables false
set_option linter.unusedSimpArgs false
set_option maxRecDepth 10000
namespace Sx
open Go Go.Proofs
section
variable {C : Ctx}
/-- behind a method: the value that it left -/
def Got (H H2 : Heap) (b c : Nat) (r : RS) (v : V) : Prop := ∃ y : TV, Left H H2 b c r y ∧ y.Kind = v.k ∧ y.N = v.n ∧ y.S = v.s ∧ VRow (Heap.new H H2) y.L v.l
theorem VRow.nil (H : Heap) : VRow H Sl.nil [] := ⟨[], .inl rfl, rfl, trivial⟩

theorem rdValue_ok {b : Nat} : ∀ k : Nat, k ≤ 65 → RdV C b k := by
  intro k
  induction k with
  | zero =>
    intro _ H r K h hl kk
    apply ad_code_Reader_value
    unfold sh_code_Reader_value
    obtain ⟨q0, hq0, _⟩ := h.ok
    intro b1 n1 b3 n3
    refine ⟨rfl, rfl, _, Heap.put_same .., by simp, ?_⟩
    rw [Heap.put_put]
    have l1 := Heap.le_put n1 (g := .row (T_api_Value.c T_api_Value.zero)) (m := true)
    generalize hsp : splice (List.replicate 7 (.nilFunc : Value)) (b3, 0).2 _ = fs
    have l3 := Heap.le_put n3 (g := .row fs) (m := true)
    have hb1 := l3 _ _ (Heap.put_same (H := H) (b := b1) (g := .row (T_api_Value.c T_api_Value.zero)) (m := true))
    have hr5 := (h.le l1).le l3
    have l5 := l1.trans l3
    generalize (H.put b1 (.row (T_api_Value.c T_api_Value.zero))).put b3 (.row fs) = H5 at *
    refine next_ok hr5 fun H9 hb9 hr9 => ?_
    intro b10 n10
    refine ⟨_, Heap.put_same .., by simp [T_api_Value.c], ?_⟩
    rw [Heap.put_put]
    have esp : ∀ y : TV, splice (T_api_Value.c T_api_Value.zero) (b10, 0).2 (T_api_Value.c y) = T_api_Value.c y := fun y => rfl
    rw [esp]
    have n0 : H b1 = none := n1
    have hb1b : b1 ≠ b := fun e => by rw [e, hq0] at n1; cases n1
    have hb19 := hb9 _ _ hb1b hb1
    obtain ⟨q9, hq9, _⟩ := hr9.ok
    have hne : b10 ≠ b := fun e => by rw [e, hq9] at n10; cases n10
    have l12 := Heap.le_put n10 (g := .row (T_api_Value.c (⟨((nextR r).1.toNat : Int), 0, [], Sl.nil⟩ : TV))) (m := true)
    have hat : At (H9.put b10 (.row (T_api_Value.c (⟨((nextR r).1.toNat : Int), 0, [], Sl.nil⟩ : TV)))) b10 ⟨((nextR r).1.toNat : Int), 0, [], Sl.nil⟩ := Heap.put_same ..
    have hr12 := hr9.le l12
    have hbut : Heap.but b H (H9.put b10 (.row (T_api_Value.c (⟨((nextR r).1.toNat : Int), 0, [], Sl.nil⟩ : TV)))) := ((Heap.le.but l5).trans hb9).trans (Heap.le.but l12)
    have hb112 := l12 _ _ hb19
    generalize H9.put b10 (.row (T_api_Value.c (⟨((nextR r).1.toNat : Int), 0, [], Sl.nil⟩ : TV))) = H12 at *
    refine ⟨fun _ H' => Heap.but b H12 H' ∧ Rdr H' b (askR false (nextR r).2), ?_, ?_⟩
    · refine ⟨fun v H' => v = false ∧ H12 = H', ift_neg (by rw [decide_eq_false_iff_not]; omega) ⟨rfl, rfl⟩, ?_⟩
      rintro _ _ ⟨rfl, rfl⟩
      refine ⟨fun v H' => v = false ∧ H12 = H', ift_neg rfl ⟨rfl, rfl⟩, ?_⟩
      rintro _ _ ⟨rfl, rfl⟩
      exact ask_ok hr12 fun H13 hb13 hr13 => ift_neg rfl ⟨hb13, hr13⟩
    · rintro _ H' ⟨hb', hr'⟩
      have hat' := hb' _ _ hne hat
      have hb1' := hb' _ _ hb1b hb112
      refine bxV hat' ⟨_, hb1', by simp [T_api_Value.c], ?_⟩
      have esp : ∀ y : TV, splice (T_api_Value.c T_api_Value.zero) (b1, 0).2 (T_api_Value.c y) = T_api_Value.c y := fun y => rfl
      rw [esp]
      refine bxV (Heap.put_same ..) (kk _ _ (fun x e hx he => ?_) (hr'.beside hb1' hb1b) (VIs_iff.2 ⟨rfl, rfl, rfl, VRow.nil _⟩))
      have hxb : x ≠ b1 := fun e' => by rw [e', n0] at he; cases he
      rw [Heap.put_ne _ _ _ hxb]
      exact hb' _ _ hx (hbut _ _ hx he)
  | succ k ih =>
    intro hk65 H r K h hl kk
    have ih : RdV C b k := ih (by omega)
    apply ad_code_Reader_value
    unfold sh_code_Reader_value
    obtain ⟨q0, hq0, _⟩ := h.ok
    intro b1 n1 b3 n3
    refine ⟨rfl, rfl, _, Heap.put_same .., by simp, ?_⟩
    rw [Heap.put_put]
    have l1 := Heap.le_put n1 (g := .row (T_api_Value.c T_api_Value.zero)) (m := true)
    have esp3 : ∀ vs : List Value, vs.length = 7 → splice (List.replicate 7 (.nilFunc : Value)) (b3, 0).2 vs = vs := fun vs hl => by unfold splice; simp [hl]
    rw [esp3 _ rfl]
    generalize hfs : ([.nilFunc, .func (.func 85) (List.toArray []) (List.toArray []), .func (.func 86) (List.toArray []) (List.toArray []), .func (.func 87) (List.toArray []) (List.toArray []), .func (.func 88) (List.toArray []) (List.toArray []), .func (.func 89) (List.toArray []) (List.toArray []), .func (.func 90) (List.toArray []) (List.toArray [])] : List Value) = fs
    have l3 := Heap.le_put n3 (g := .row fs) (m := true)
    have hb1 := l3 _ _ (Heap.put_same (H := H) (b := b1) (g := .row (T_api_Value.c T_api_Value.zero)) (m := true))
    have hb3 := Heap.put_same (H := H.put b1 (.row (T_api_Value.c T_api_Value.zero))) (b := b3) (g := .row fs) (m := true)
    have hr5 := (h.le l1).le l3
    have l5 := l1.trans l3
    have n30 : H b3 = none := l1.none n3
    generalize (H.put b1 (.row (T_api_Value.c T_api_Value.zero))).put b3 (.row fs) = H5 at *
    refine next_ok hr5 fun H9 hb9 hr9 => ?_
    intro b10 n10
    refine ⟨_, Heap.put_same .., by simp [T_api_Value.c], ?_⟩
    rw [Heap.put_put]
    have esp : ∀ y : TV, splice (T_api_Value.c T_api_Value.zero) (b10, 0).2 (T_api_Value.c y) = T_api_Value.c y := fun y => rfl
    rw [esp]
    have hb1b : b1 ≠ b := fun e => by rw [e, hq0] at n1; cases n1
    have hb3b : b3 ≠ b := fun e => by rw [e, hq0] at n30; cases n30
    have hb19 := hb9 _ _ hb1b hb1
    have hb39 := hb9 _ _ hb3b hb3
    obtain ⟨q9, hq9, _⟩ := hr9.ok
    have hne : b10 ≠ b := fun e => by rw [e, hq9] at n10; cases n10
    have hne1 : b1 ≠ b10 := fun e => by rw [← e, hb19] at n10; cases n10
    have l12 := Heap.le_put n10 (g := .row (T_api_Value.c (⟨((nextR r).1.toNat : Int), 0, [], Sl.nil⟩ : TV))) (m := true)
    have hat : At (H9.put b10 (.row (T_api_Value.c (⟨((nextR r).1.toNat : Int), 0, [], Sl.nil⟩ : TV)))) b10 ⟨((nextR r).1.toNat : Int), 0, [], Sl.nil⟩ := Heap.put_same ..
    have hr12 := hr9.le l12
    have hbut : Heap.but b H (H9.put b10 (.row (T_api_Value.c (⟨((nextR r).1.toNat : Int), 0, [], Sl.nil⟩ : TV)))) := ((Heap.le.but l5).trans hb9).trans (Heap.le.but l12)
    have hb112 := l12 _ _ hb19
    have hb312 := l12 _ _ hb39
    have n10H : H b10 = none := by
      cases hx : H b10 with
      | none => rfl
      | some e => rw [((Heap.le.but l5).trans hb9) _ _ hne hx] at n10; cases n10
    generalize H9.put b10 (.row (T_api_Value.c (⟨((nextR r).1.toNat : Int), 0, [], Sl.nil⟩ : TV))) = H12 at *
    have hnl := nextR_le r
    have hkd : ∀ n : Nat, n < 256 → (((nextR r).1.toNat : Int) = n ↔ (nextR r).1 = UInt8.ofNat n) := fun n hn => by
      have := u8eq (nextR r).1 n hn
      rw [Bool.eq_iff_iff] at this
      simpa using this
    have hD : valD (k + 1) r = if (askR (decide (1 ≤ (nextR r).1.toNat) && decide ((nextR r).1.toNat ≤ 6)) (nextR r).2).f then (.mk ((nextR r).1.toNat : Int) 0 [] [], askR (decide (1 ≤ (nextR r).1.toNat) && decide ((nextR r).1.toNat ≤ 6)) (nextR r).2)
      else if (nextR r).1 = 1 then (.mk 1 (if (flagR (askR (decide (1 ≤ (nextR r).1.toNat) && decide ((nextR r).1.toNat ≤ 6)) (nextR r).2)).1 then 1 else 0) [] [], (flagR (askR (decide (1 ≤ (nextR r).1.toNat) && decide ((nextR r).1.toNat ≤ 6)) (nextR r).2)).2)
      else if (nextR r).1 = 2 then (.mk 2 (numR (askR (decide (1 ≤ (nextR r).1.toNat) && decide ((nextR r).1.toNat ≤ 6)) (nextR r).2)).1 [] [], (numR (askR (decide (1 ≤ (nextR r).1.toNat) && decide ((nextR r).1.toNat ≤ 6)) (nextR r).2)).2)
      else if (nextR r).1 = 3 then (.mk 3 0 (bigR (askR (decide (1 ≤ (nextR r).1.toNat) && decide ((nextR r).1.toNat ≤ 6)) (nextR r).2)).1 [], (bigR (askR (decide (1 ≤ (nextR r).1.toNat) && decide ((nextR r).1.toNat ≤ 6)) (nextR r).2)).2)
      else if (nextR r).1 = 4 then (.mk 4 0 (strR 4096 (askR (decide (1 ≤ (nextR r).1.toNat) && decide ((nextR r).1.toNat ≤ 6)) (nextR r).2)).1 [], (strR 4096 (askR (decide (1 ≤ (nextR r).1.toNat) && decide ((nextR r).1.toNat ≤ 6)) (nextR r).2)).2)
      else if (nextR r).1 = 5 then (.mk 5 0 [] (listR (valD k) (askR (decide (1 ≤ (nextR r).1.toNat) && decide ((nextR r).1.toNat ≤ 6)) (nextR r).2)).1, (listR (valD k) (askR (decide (1 ≤ (nextR r).1.toNat) && decide ((nextR r).1.toNat ≤ 6)) (nextR r).2)).2)
      else (.mk 6 0 (strR 4096 (askR (decide (1 ≤ (nextR r).1.toNat) && decide ((nextR r).1.toNat ≤ 6)) (nextR r).2)).1 (listR (valD k) (strR 4096 (askR (decide (1 ≤ (nextR r).1.toNat) && decide ((nextR r).1.toNat ≤ 6)) (nextR r).2)).2).1, (listR (valD k) (strR 4096 (askR (decide (1 ≤ (nextR r).1.toNat) && decide ((nextR r).1.toNat ≤ 6)) (nextR r).2)).2).2) := rfl
    rw [hD] at kk
    have hzl := askR_le (decide (1 ≤ (nextR r).1.toNat) && decide ((nextR r).1.toNat ≤ 6)) (nextR r).2
    refine ⟨fun _ H' => Got H12 H' b b10 (valD (k + 1) r).2 (valD (k + 1) r).1, ?_, ?_⟩
    rotate_left
    · rintro _ H' ⟨y, hL, y1, y2, y3, y4⟩
      have hb1' := hL.but _ _ hb1b hne1 hb112
      refine bxV hL.at_ ⟨_, hb1', by simp [T_api_Value.c], ?_⟩
      have esp : ∀ y : TV, splice (T_api_Value.c T_api_Value.zero) (b1, 0).2 (T_api_Value.c y) = T_api_Value.c y := fun y => rfl
      rw [esp]
      rw [hD] at hL y1 y2 y3 y4
      refine bxV (Heap.put_same ..) (kk _ _ (fun x e hx he => ?_) (hL.rdr.beside hb1' hb1b) (VIs_iff.2 ⟨y1, y2, y3, y4.le fun x e hx => ?_⟩))
      · have hxb : x ≠ b1 := fun e' => by rw [e', n1] at he; cases he
        have hxc : x ≠ b10 := fun e' => by rw [e', n10H] at he; cases he
        rw [Heap.put_ne _ _ _ hxb]
        exact hL.but _ _ hx hxc (hbut _ _ hx he)
      · obtain ⟨g1, g2⟩ := Heap.new_inv hx
        have hxb : x ≠ b1 := fun e' => by rw [e', hb112] at g1; cases g1
        have hxH : H x = none := by
          cases hx : H x with
          | none => rfl
          | some e =>
            by_cases hxbb : x = b
            · obtain ⟨q12, hq12, _⟩ := hr12.ok
              rw [hxbb, hq12] at g1; cases g1
            · rw [hbut _ _ hxbb hx] at g1; cases g1
        exact Heap.new_some (by rw [Heap.put_ne _ _ _ hxb]; exact g2) hxH
    rw [hD]
    clear kk hD
    have ed : (65 - ((k + 1 : Nat) : Int)) = 64 - (k : Int) := by omega
    rw [ed]
    refine ⟨fun v H' => H12 = H' ∧ v = decide (1 ≤ (nextR r).1.toNat), ?_, ?_⟩
    · refine ift_pos (by rw [decide_eq_true_eq]; omega) (bxK hat ⟨rfl, ?_⟩)
      rw [decide_eq_decide]; dsimp only; omega
    rintro _ _ ⟨rfl, rfl⟩
    refine ⟨fun v H' => H12 = H' ∧ v = (decide (1 ≤ (nextR r).1.toNat) && decide ((nextR r).1.toNat ≤ 6)), ?_, ?_⟩
    · refine ift.of (fun hh => bxK hat ⟨rfl, ?_⟩) (fun hh => ⟨rfl, by rw [hh]; rfl⟩)
      rw [hh, Bool.true_and, decide_eq_decide]; dsimp only; omega
    rintro _ _ ⟨rfl, rfl⟩
    refine ask_ok hr12 fun H13 hb13 hr13 => ?_
    have hat13 := hb13 _ _ hne hat
    have hb313 := hb13 _ _ hb3b hb312
    have hzf := askR_f (ok := (decide (1 ≤ (nextR r).1.toNat) && decide ((nextR r).1.toNat ≤ 6))) (r := (nextR r).2)
    generalize askR (decide (1 ≤ (nextR r).1.toNat) && decide ((nextR r).1.toNat ≤ 6)) (nextR r).2 = z at *
    have hrn : ∀ {H' : Heap} {x : Nat} {e : Bool × GO}, Heap.new H13 H' x = some e → Heap.new H12 H' x = some e := fun {H' x e} hx => by
      obtain ⟨g1, g2⟩ := Heap.new_inv hx
      refine Heap.new_some g2 ?_
      cases h12 : H12 x with
      | none => rfl
      | some e' =>
        by_cases hxb : x = b
        · obtain ⟨q13, hq13, _⟩ := hr13.ok
          rw [hxb, hq13] at g1; cases g1
        · rw [hb13 _ _ hxb h12] at g1; cases g1
    have lift : ∀ {H' : Heap} {r' : RS} {y : TV}, Left H13 H' b b10 r' y → Left H12 H' b b10 r' y := fun hL => ⟨(But2.of hb13).trans hL.but, hL.rdr, hL.at_⟩
    cases hf : z.f with
    | true => exact ift_neg rfl ⟨_, lift (Left.start hr13 hat13), rfl, rfl, rfl, VRow.nil _⟩
    | false =>
      have hok := (hzf hf).1
      simp only [Bool.and_eq_true, decide_eq_true_eq] at hok
      simp only [Bool.false_eq_true, if_false]
      refine ift_pos rfl (bxK hat13 ⟨by dsimp only; omega, by dsimp only; omega, ?_⟩)
      have hrd : ∀ {o : Nat} {u : Value}, fs[o]? = some u → rd H13 ((b3, 0).1, (b3, 0).2 + (o : Int).toNat * 1) = some u := fun {o u} hu => by
        rw [rd_row hb313]; simpa using hu
      dsimp only
      have hz6 : (nextR r).1 = 1 ∨ (nextR r).1 = 2 ∨ (nextR r).1 = 3 ∨ (nextR r).1 = 4 ∨ (nextR r).1 = 5 ∨ (nextR r).1 = 6 := by
        have e : ∀ n : Nat, n < 256 → (nextR r).1.toNat = n → (nextR r).1 = UInt8.ofNat n := fun n hn hh => (hkd n hn).1 (by omega)
        rcases (by omega : (nextR r).1.toNat = 1 ∨ (nextR r).1.toNat = 2 ∨ (nextR r).1.toNat = 3 ∨ (nextR r).1.toNat = 4 ∨ (nextR r).1.toNat = 5 ∨ (nextR r).1.toNat = 6) with h | h | h | h | h | h
        · exact .inl (e 1 (by omega) h)
        · exact .inr (.inl (e 2 (by omega) h))
        · exact .inr (.inr (.inl (e 3 (by omega) h)))
        · exact .inr (.inr (.inr (.inl (e 4 (by omega) h))))
        · exact .inr (.inr (.inr (.inr (.inl (e 5 (by omega) h)))))
        · exact .inr (.inr (.inr (.inr (.inr (e 6 (by omega) h)))))
      clear hkd hok
      generalize (nextR r).1 = ch at *
      rcases hz6 with rfl | rfl | rfl | rfl | rfl | rfl
      · refine ⟨_, hrd (o := 1) (by rw [← hfs]; rfl), ?_⟩
        have hc : c_code_Reader_truth C (some (b, 0)) (some (b10, 0)) (64 - (k : Int)) (fun H' => Got H12 H' b b10 (flagR z).2 (.mk 1 (if (flagR z).1 then 1 else 0) [] [])) H13 := rdTruth_ok hr13 hat13 hne fun H' hL => ⟨_, lift hL, rfl, rfl, rfl, VRow.nil _⟩
        exact ⟨_, [], [], rfl, ok_code_Reader_truth, hc⟩
      · refine ⟨_, hrd (o := 2) (by rw [← hfs]; rfl), ?_⟩
        have hc : c_code_Reader_whole C (some (b, 0)) (some (b10, 0)) (64 - (k : Int)) (fun H' => Got H12 H' b b10 (numR z).2 (.mk 2 (numR z).1 [] [])) H13 := rdWhole_ok hr13 hat13 hne fun H' hL => ⟨_, lift hL, rfl, rfl, rfl, VRow.nil _⟩
        exact ⟨_, [], [], rfl, ok_code_Reader_whole, hc⟩
      · refine ⟨_, hrd (o := 3) (by rw [← hfs]; rfl), ?_⟩
        have hc : c_code_Reader_big C (some (b, 0)) (some (b10, 0)) (64 - (k : Int)) (fun H' => Got H12 H' b b10 (bigR z).2 (.mk 3 0 (bigR z).1 [])) H13 := rdBig_ok hr13 hat13 hne rfl fun H' hL => ⟨_, lift hL, rfl, rfl, rfl, VRow.nil _⟩
        exact ⟨_, [], [], rfl, ok_code_Reader_big, hc⟩
      · refine ⟨_, hrd (o := 4) (by rw [← hfs]; rfl), ?_⟩
        have hc : c_code_Reader_words C (some (b, 0)) (some (b10, 0)) (64 - (k : Int)) (fun H' => Got H12 H' b b10 (strR 4096 z).2 (.mk 4 0 (strR 4096 z).1 [])) H13 := rdWords_ok hr13 (by omega) hat13 hne fun H' hL => ⟨_, lift hL, rfl, rfl, rfl, VRow.nil _⟩
        exact ⟨_, [], [], rfl, ok_code_Reader_words, hc⟩
      · refine ⟨_, hrd (o := 5) (by rw [← hfs]; rfl), ?_⟩
        have hc : c_code_Reader_list C (some (b, 0)) (some (b10, 0)) (64 - (k : Int)) (fun H' => Got H12 H' b b10 (listR (valD k) z).2 (.mk 5 0 [] (listR (valD k) z).1)) H13 := rdList_ok ih (by omega) hr13 (by omega) hat13 hne fun H' s hL hV => ⟨_, lift hL, rfl, rfl, rfl, hV.le fun x e hx => hrn hx⟩
        exact ⟨_, [], [], rfl, ok_code_Reader_list, hc⟩
      · refine ⟨_, hrd (o := 6) (by rw [← hfs]; rfl), ?_⟩
        have hc : c_code_Reader_cons C (some (b, 0)) (some (b10, 0)) (64 - (k : Int)) (fun H' => Got H12 H' b b10 (listR (valD k) (strR 4096 z).2).2 (.mk 6 0 (strR 4096 z).1 (listR (valD k) (strR 4096 z).2).1)) H13 := by
          apply ad_code_Reader_cons
          unfold sh_code_Reader_cons
          refine rdWords_ok hr13 (by omega) hat13 hne fun H14 hL14 => ?_
          have hsl := strR_le 4096 z
          refine rdList_ok ih (by omega) hL14.rdr (by omega) hL14.at_ hne fun H' s hL hV => ?_
          refine ⟨_, lift ⟨hL14.but.trans hL.but, hL.rdr, hL.at_⟩, rfl, rfl, rfl, hV.le fun x e hx => hrn ?_⟩
          obtain ⟨g1, g2⟩ := Heap.new_inv hx
          refine Heap.new_some g2 ?_
          cases h13 : H13 x with
          | none => rfl
          | some e' =>
            by_cases hxb : x = b
            · obtain ⟨q14, hq14, _⟩ := hL14.rdr.ok
              rw [hxb, hq14] at g1; cases g1
            · by_cases hxc : x = b10
              · rw [hxc] at g1
                have := hL14.at_
                unfold At at this
                rw [this] at g1; cases g1
              · rw [hL14.but _ _ hxb hxc h13] at g1; cases g1
        exact ⟨_, [], [], rfl, ok_code_Reader_cons, hc⟩
end
end Sx
set_option linter.unusedVariables false
set_option linter.unusedSimpArgs false
set_option maxRecDepth 10000
namespace Sx
open Go Go.Proofs
theorem numR_in (r : RS) : -9223372036854775808 ≤ (numR r).1 ∧ (numR r).1 ≤ 9223372036854775807 := by
  unfold numR
  dsimp only
  generalize numberR (numK (nextR r).1) 8 (flipR (decide ((nextR r).1 < 128)) (nextR r).2) = q
  split
  · omega
  · rename_i hf
    have hf : (askR (decide (q.1 ≤ 9223372036854775807)) (flipR (decide ((nextR r).1 < 128)) q.2)).f = false := by simpa using hf
    have := of_decide_eq_true (askR_f hf).1
    split <;> omega
theorem strF_in : ∀ (n : Nat) (m : Int) (acc : Str) (r : RS), (strF n m acc r).1.length ≤ acc.length + n
  | 0, m, acc, r => by simp [strF]
  | n + 1, m, acc, r => by
    simp only [strF]
    split
    · simp
    · split
      · split
        · simp
        · split
          · dsimp only; omega
          · have := strF_in n m (acc ++ [0]) (askR (decide ((nextR (nextR (askR (decide ((acc.length : Int) ≤ m)) r)).2).1 = 0) || decide ((nextR (nextR (askR (decide ((acc.length : Int) ≤ m)) r)).2).1 = 255)) (nextR (nextR (askR (decide ((acc.length : Int) ≤ m)) r)).2).2)
            simp only [List.length_append, List.length_cons, List.length_nil] at this
            omega
      · have := strF_in n m (acc ++ [(nextR (askR (decide ((acc.length : Int) ≤ m)) r)).1]) (nextR (askR (decide ((acc.length : Int) ≤ m)) r)).2
        simp only [List.length_append, List.length_cons, List.length_nil] at this
        omega
theorem strR_in (m : Int) (r : RS) : (strR m r).1.length ≤ r.s.length + 2 := by
  have := strF_in (r.s.length + 2) m [] r
  simpa [strR] using this
theorem bigR_in (r : RS) : (bigR r).1.length ≤ 201 := by
  unfold bigR
  dsimp only
  rw [List.length_append, digF_len]
  have := countR_le (m := 200) (r := flipR (decide ((nextR r).1 = 127)) (askR (decide ((nextR r).1 = 127) || decide ((nextR r).1 = 128)) (nextR r).2)) (by omega)
  simp only [List.length_nil]
  split <;> simp <;> omega
theorem listF_in (val : RS → V × RS) (P : V → Prop) (m : Nat) (hl : ∀ r, (val r).2.s.length ≤ r.s.length) (hv : ∀ r, r.s.length ≤ m → P (val r).1) : ∀ (n : Nat) (c : UInt8) (acc : List V) (r : RS), r.s.length ≤ m → acc.length ≤ 16 → (∀ v ∈ acc, P v) → (listF val n c acc r).1.length ≤ 16 ∧ ∀ v ∈ (listF val n c acc r).1, P v
  | 0, c, acc, r, hr, h, hp => ⟨h, hp⟩
  | n + 1, c, acc, r, hr, h, hp => by
    simp only [listF]
    have h1 := askR_le (decide (c = 1) && decide (acc.length < 16)) r
    split
    · exact ⟨h, hp⟩
    · split
      · rename_i hf
        have := nextR_le (askR (decide (c = 1) && decide (acc.length < 16)) r)
        exact listF_in val P m hl hv n _ acc _ (by omega) h hp
      · rename_i hf
        have hf : (askR (decide (c = 1) && decide (acc.length < 16)) r).f = false := by simpa using hf
        have hok := (askR_f hf).1
        simp only [Bool.and_eq_true, decide_eq_true_eq] at hok
        have h2 := nextR_le (val (askR (decide (c = 1) && decide (acc.length < 16)) r)).2
        have h3 := hl (askR (decide (c = 1) && decide (acc.length < 16)) r)
        refine listF_in val P m hl hv n _ _ _ (by omega) (by simp; omega) fun v hv' => ?_
        rcases List.mem_append.1 hv' with hv' | hv'
        · exact hp v hv'
        · rw [List.mem_singleton.1 hv']; exact hv _ (by omega)
theorem listR_in (val : RS → V × RS) (P : V → Prop) (m : Nat) (hl : ∀ r, (val r).2.s.length ≤ r.s.length) (hv : ∀ r, r.s.length ≤ m → P (val r).1) (r : RS) (hr : r.s.length ≤ m) : (listR val r).1.length ≤ 16 ∧ ∀ v ∈ (listR val r).1, P v :=
  listF_in val P m hl hv _ _ _ _ (Nat.le_trans (nextR_le r) hr) (by simp) (fun v h => by cases h)
theorem valD_VB : ∀ (k : Nat) (r : RS), r.s.length ≤ 140737488355320 → VB (valD k r).1
  | 0, r, h => by
    have : (nextR r).1.toNat < 256 := (nextR r).1.toBitVec.isLt
    exact ⟨by omega, by omega, by simp, by simp, trivial⟩
  | k + 1, r, h => by
    simp only [valD]
    have h0 : (nextR r).1.toNat < 256 := (nextR r).1.toBitVec.isLt
    have h1 := Nat.le_trans (askR_le (decide (1 ≤ (nextR r).1.toNat) && decide ((nextR r).1.toNat ≤ 6)) (nextR r).2) (nextR_le r)
    generalize askR (decide (1 ≤ (nextR r).1.toNat) && decide ((nextR r).1.toNat ≤ 6)) (nextR r).2 = z at *
    have h3 := numR_in z
    have h4 := bigR_in z
    have h5 := strR_in 4096 z
    have h8 := strR_le 4096 z
    have h6 := listR_in (valD k) VB 140737488355320 (valD_le k) (fun r hr => valD_VB k r hr) z (by omega)
    have h7 := listR_in (valD k) VB 140737488355320 (valD_le k) (fun r hr => valD_VB k r hr) (strR 4096 z).2 (by omega)
    split
    · exact ⟨by omega, by omega, by simp, by simp, trivial⟩
    split
    · exact ⟨by omega, by split <;> omega, by simp, by simp, trivial⟩
    split
    · exact ⟨by omega, h3, by simp, by simp, trivial⟩
    split
    · exact ⟨by omega, by omega, by omega, by simp, trivial⟩
    split
    · exact ⟨by omega, by omega, by omega, by simp, trivial⟩
    split
    · exact ⟨by omega, by omega, by simp, by omega, VBs.of h6.2⟩
    · exact ⟨by omega, by omega, by omega, by omega, VBs.of h7.2⟩

def noV : V := .mk 0 0 [] []
/-- what Value tells -/
def vR (r : RS) : V × RS :=
  let z := askR (mayV (valD 64 r).1) (valD 64 r).2
  (if z.f then noV else (valD 64 r).1, z)

section
variable {C : Ctx} {H : Heap}
theorem readValue_ok {b : Nat} {r : RS} {K : TV → Heap → Prop} (h : Rdr H b r) (hl : r.s.length ≤ 140737488355320) (k : ∀ H2 x, Heap.but b H H2 → Rdr H2 b (vR r).2 → VIs (Heap.new H H2) (vR r).1 x → K x H2) : c_code_Reader_Value C (some (b, 0)) K H := by
  apply ad_code_Reader_Value
  unfold sh_code_Reader_Value
  obtain ⟨q0, hq0, _⟩ := h.ok
  intro b1 n1
  have l1 := Heap.le_put n1 (g := .row (T_api_Value.c T_api_Value.zero)) (m := true)
  have hb1 := Heap.put_same (H := H) (b := b1) (g := .row (T_api_Value.c T_api_Value.zero)) (m := true)
  have hb1b : b1 ≠ b := fun e => by rw [e, hq0] at n1; cases n1
  generalize H.put b1 (.row (T_api_Value.c T_api_Value.zero)) = H1 at *
  refine ift_neg rfl ?_
  refine rdValue_ok 64 (by omega) (h.le l1) hl fun H2 x hb2 hr2 hv2 => ?_
  have hVB := valD_VB 64 r hl
  have hvR : vR r = (if (askR (mayV (valD 64 r).1) (valD 64 r).2).f then noV else (valD 64 r).1, askR (mayV (valD 64 r).1) (valD 64 r).2) := rfl
  rw [hvR] at k
  clear hvR
  generalize valD 64 r = q at *
  obtain ⟨v, u⟩ := q
  dsimp only at *
  intro b9 n9
  refine ⟨_, Heap.put_same .., by simp [T_api_Value.c], ?_⟩
  rw [Heap.put_put]
  have esp : ∀ (c : Nat) (y z : TV), splice (T_api_Value.c z) (c, 0).2 (T_api_Value.c y) = T_api_Value.c y := fun c y z => rfl
  rw [esp]
  have l9 := Heap.le_put n9 (g := .row (T_api_Value.c x)) (m := true)
  have hb9 := Heap.put_same (H := H2) (b := b9) (g := .row (T_api_Value.c x)) (m := true)
  obtain ⟨q2, hq2, _⟩ := hr2.ok
  have hb9b : b9 ≠ b := fun e => by rw [e, hq2] at n9; cases n9
  have hb12 := hb2 _ _ hb1b hb1
  have hr9 := hr2.le l9
  have hb19 := l9 _ _ hb12
  have hbut : Heap.but b H (H2.put b9 (.row (T_api_Value.c x))) := ((Heap.le.but l1).trans hb2).trans (Heap.le.but l9)
  have hvn : VIs (Heap.new H (H2.put b9 (.row (T_api_Value.c x)))) v x := hv2.le fun y e hy => by
    obtain ⟨g1, g2⟩ := Heap.new_inv hy
    exact Heap.new_some (l9 _ _ g2) (l1.none g1)
  have hvn1 : ∀ y e, Heap.new H1 H2 y = some e → y ≠ b1 := fun y e hy e' => by
    obtain ⟨g1, _⟩ := Heap.new_inv hy
    rw [e', hb1] at g1; cases g1
  have hvs : VIs (H2.put b9 (.row (T_api_Value.c x))) v x := (hv2.le Heap.new_le).le l9
  generalize H2.put b9 (.row (T_api_Value.c x)) = H9 at *
  refine bxV hb9 (value_Check_ok hvs hVB ?_)
  rw [mayV_dec]
  refine ask_ok hr9 fun H3 hb3 hr3 => ?_
  have hb13 := hb3 _ _ hb1b hb19
  have hb93 := hb3 _ _ hb9b hb9
  have keep : ∀ {g : GO} (y : Nat) (e : Bool × GO), y ≠ b → H y = some e → (H3.put b1 g) y = some e := fun {g} y e hy he => by
    have hy1 : y ≠ b1 := fun e' => by rw [e', n1] at he; cases he
    rw [Heap.put_ne _ _ _ hy1]; exact (hbut.trans hb3) _ _ hy he
  cases hf : (askR (mayV v) u).f with
  | true =>
    rw [hf] at k
    refine ift_pos rfl ⟨_, hb13, by simp [T_api_Value.c], ?_⟩
    rw [esp]
    exact bxV (Heap.put_same ..) (k _ _ keep (hr3.beside hb13 hb1b) (VIs_iff.2 ⟨rfl, rfl, rfl, VRow.nil _⟩))
  | false =>
    rw [hf] at k
    refine ift_neg rfl (bxV hb93 ⟨_, hb13, by simp [T_api_Value.c], ?_⟩)
    rw [esp]
    refine bxV (Heap.put_same ..) (k _ _ keep (hr3.beside hb13 hb1b) ?_)
    refine hv2.le fun y e hy => ?_
    obtain ⟨g1, g2⟩ := Heap.new_inv hy
    have hyb : y ≠ b := fun e' => by rw [e', l1 _ _ hq0] at g1; cases g1
    exact Heap.new_some (by rw [Heap.put_ne _ _ _ (hvn1 y e hy)]; exact hb3 _ _ hyb (l9 _ _ g2)) (l1.none g1)
end
end Sx
set_option linter.unusedVariables false
set_option linter.unusedSimpArgs false
set_option maxRecDepth 10000
namespace Sx
open Go Go.Proofs
theorem nextR_cons (c : UInt8) (s : Str) (t : UInt8) : nextR ⟨c :: s, t, false⟩ = (c ^^^ t, ⟨s, t, false⟩) := by
  unfold nextR
  simp [askR]
theorem nextR_inv {r : RS} (h : (nextR r).2.f = false) : ∃ c s, r = ⟨c :: s, r.t, false⟩ ∧ nextR r = (c ^^^ r.t, ⟨s, r.t, false⟩) := by
  obtain ⟨s, t, f⟩ := r
  cases s with
  | nil => simp [nextR, askR] at h
  | cons c s =>
    cases f with
    | true => simp [nextR, askR] at h
    | false => exact ⟨c, s, rfl, nextR_cons c s t⟩
end Sx
set_option linter.unusedVariables false
set_option linter.unusedSimpArgs false
set_option maxRecDepth 10000
namespace Sx
open Go Go.Proofs
end Sx
set_option linter.unusedVariables false
set_option linter.unusedSimpArgs false
set_option maxRecDepth 10000
namespace Sx
open Go Go.Proofs
end Sx
set_option linter.unusedVariables false
set_option linter.unusedSimpArgs false
set_option maxRecDepth 10000
namespace Sx
open Go Go.Proofs
def apR (r : RS) (z : Str) : RS := ⟨r.s ++ z, r.t, r.f⟩
structure LA (z : Str) {α : Type} (p q : α × RS) : Prop where
  a : p.2.f = false → q = (p.1, apR p.2 z)
  b : q.2.f = false → z.length ≤ q.2.s.length → p.2.f = false
/-- reads what it reads alone -/
structure Loc (z : Str) {α : Type} (g : RS → α × RS) : Prop where
  loc : ∀ r, r.f = false → LA z (g r) (g (apR r z))
  stk : ∀ r, r.f = true → (g r).2.f = true
  le : ∀ r, (g r).2.s.length ≤ r.s.length

theorem LA.bind {z : Str} {α β : Type} {p q : α × RS} (h : LA z p q) (g : α → RS → β × RS) (hg : ∀ a, Loc z (g a)) : LA z (g p.1 p.2) (g q.1 q.2) := by
  refine ⟨fun hp => ?_, fun hq hl => ?_⟩
  · have hpf : p.2.f = false := by
      cases hf : p.2.f with
      | false => rfl
      | true => rw [(hg p.1).stk _ hf] at hp; cases hp
    rw [h.a hpf]
    exact ((hg _).loc _ hpf).a hp
  · have hqf : q.2.f = false := by
      cases hf : q.2.f with
      | false => rfl
      | true => rw [(hg q.1).stk _ hf] at hq; cases hq
    have hpf := h.b hqf (Nat.le_trans hl ((hg _).le _))
    rw [h.a hpf] at hq hl
    exact ((hg _).loc _ hpf).b hq hl
section
variable {z : Str} {α β : Type}
theorem Loc.bind {f : RS → α × RS} (hf : Loc z f) {g : α → RS → β × RS} (hg : ∀ a, Loc z (g a)) : Loc z (fun r => g (f r).1 (f r).2) :=
  ⟨fun r hr => (hf.loc r hr).bind g hg, fun r hr => (hg _).stk _ (hf.stk r hr), fun r => Nat.le_trans ((hg _).le _) (hf.le r)⟩
theorem Loc.pure (a : α) : Loc z (fun r => (a, r)) := ⟨fun r hr => ⟨fun _ => rfl, fun _ _ => hr⟩, fun _ h => h, fun _ => Nat.le_refl _⟩
theorem Loc.ask (ok : Bool) : Loc z (fun r => ((), askR ok r)) := by
  cases ok
  · exact ⟨fun r hr => ⟨fun h => by simp [askR] at h, fun h => by simp [askR] at h⟩, fun _ _ => rfl, fun _ => by simp [askR]⟩
  · exact Loc.pure ()
theorem Loc.flip (is : Bool) : Loc z (fun r => ((), flipR is r)) := by
  cases is
  · exact Loc.pure ()
  · exact ⟨fun r hr => ⟨fun _ => rfl, fun _ _ => hr⟩, fun _ h => h, fun _ => Nat.le_refl _⟩
theorem Loc.next : Loc z nextR := by
  refine ⟨fun r hr => ?_, fun r hr => ?_, nextR_le⟩
  · obtain ⟨s, t, f⟩ := r
    dsimp only at hr
    subst hr
    cases s with
    | cons c s =>
      rw [nextR_cons]
      have e : apR ⟨c :: s, t, false⟩ z = ⟨c :: (s ++ z), t, false⟩ := rfl
      rw [e, nextR_cons]
      exact ⟨fun _ => rfl, fun _ _ => rfl⟩
    | nil =>
      refine ⟨fun h => by simp [nextR, askR] at h, fun h hl => ?_⟩
      have := (nextR_len (apR ⟨[], t, false⟩ z)).2 h
      have e : (apR ⟨[], t, false⟩ z).s = z := rfl
      rw [e] at this
      omega
  · cases hf : (nextR r).2.f with
    | true => rfl
    | false =>
      obtain ⟨c, s, h1, _⟩ := nextR_inv hf
      rw [h1] at hr; cases hr
theorem Loc.guard (a : α) {g : RS → α × RS} (hg : Loc z g) : Loc z (fun r => if r.f then (a, r) else g r) := by
  refine ⟨fun r hr => ?_, fun r hr => ?_, fun r => ?_⟩
  · have e : (apR r z).f = false := hr
    simp only [hr, e, Bool.false_eq_true, if_false]
    exact hg.loc r hr
  · simp [hr]
  · split
    · exact Nat.le_refl _
    · exact hg.le r
theorem Loc.ite (c : Prop) [Decidable c] {f g : RS → α × RS} (hf : Loc z f) (hg : Loc z g) : Loc z (fun r => if c then f r else g r) := by
  by_cases h : c
  · simp only [h, if_true]; exact hf
  · simp only [h, if_false]; exact hg
theorem Loc.congr {f g : RS → α × RS} (hf : Loc z f) (h : ∀ r, g r = f r) : Loc z g := by
  have : g = f := funext h
  rw [this]; exact hf
theorem Loc.map {f : RS → α × RS} (hf : Loc z f) (h : α → β) : Loc z (fun r => (h (f r).1, (f r).2)) := hf.bind (g := fun a r => (h a, r)) fun a => Loc.pure _

theorem loc_numL : ∀ (k i u : Nat), Loc z (numL k i u)
  | 0, i, u => Loc.pure u
  | k + 1, i, u => (Loc.next.bind (g := fun c r => numL k (i + 1) (u * 256 % 18446744073709551616 + c.toNat) (askR (decide (0 < i) || c != 0) r)) fun c => (Loc.ask _).bind (g := fun _ r => numL k (i + 1) (u * 256 % 18446744073709551616 + c.toNat) r) fun _ => loc_numL k _ _).congr fun r => rfl
theorem loc_number (k m : Int) : Loc z (numberR k m) :=
  ((Loc.ask (decide (0 ≤ k) && decide (k ≤ m))).bind (g := fun _ r => if r.f then (0, r) else numL k.toNat 0 0 r) fun _ => Loc.guard 0 (loc_numL _ _ _)).congr fun r => rfl
theorem ite_pair (c : Bool) (a b : α) (r : RS) : ((if c then a else b), r) = if c then (a, r) else (b, r) := by cases c <;> rfl
theorem loc_num : Loc z numR :=
  (Loc.next.bind (g := fun c r => _) fun c => (Loc.flip (decide (c < 128))).bind (g := fun _ r => _) fun _ => (loc_number (numK c) 8).bind (g := fun u r => _) fun u => (Loc.flip (decide (c < 128))).bind (g := fun _ r => _) fun _ => (Loc.ask (decide (u ≤ 9223372036854775807))).bind (g := fun _ r => _) fun _ => Loc.guard (0 : Int) (Loc.pure (if decide (c < 128) then -1 - (u : Int) else (u : Int)))).congr fun r => by
    unfold numR
    dsimp only
    rw [ite_pair]
theorem loc_count (m : Int) : Loc z (countR m) :=
  (Loc.next.bind (g := fun c r => _) fun c => (loc_number (c.toNat : Int) 4).bind (g := fun u r => _) fun u => (Loc.ask (decide (0 ≤ m) && decide (u ≤ 2147483647) && decide ((u : Int) ≤ m))).bind (g := fun _ r => _) fun _ => Loc.guard (0 : Int) (Loc.pure (u : Int))).congr fun r => by
    unfold countR
    dsimp only
    rw [ite_pair]
theorem loc_flag : Loc z flagR :=
  (Loc.next.bind (g := fun c r => _) fun c => (Loc.ask (decide (c.toNat ≤ 1))).bind (g := fun _ r => _) fun _ => Loc.guard false (Loc.pure (decide (c.toNat = 1)))).congr fun r => by
    unfold flagR
    dsimp only
    split
    · rename_i h; rw [h]; rfl
    · rename_i h
      have h : (askR (decide ((nextR r).1.toNat ≤ 1)) (nextR r).2).f = false := by simpa using h
      rw [h]; rfl
theorem loc_strF : ∀ (n : Nat) (m : Int) (acc : Str), Loc z (strF n m acc)
  | 0, m, acc => Loc.pure []
  | n + 1, m, acc =>
    ((Loc.ask (decide ((acc.length : Int) ≤ m))).bind (g := fun _ r => _) fun _ => Loc.guard ([] : Str) (Loc.next.bind (g := fun c r => _) fun c => Loc.ite (c = 0) (Loc.next.bind (g := fun d r => _) fun d => (Loc.ask (decide (d = 0) || decide (d = 255))).bind (g := fun _ r => _) fun _ => Loc.guard ([] : Str) (Loc.ite (d = 0) (Loc.pure acc) (loc_strF n m (acc ++ [0])))) (loc_strF n m (acc ++ [c])))).congr fun r => by
      simp only [strF]
theorem loc_digF : ∀ (k : Nat) (acc : Str), Loc z (digF k acc)
  | 0, acc => Loc.pure acc
  | k + 1, acc => (Loc.next.bind (g := fun c r => _) fun c => loc_digF k (acc ++ [c])).congr fun r => rfl
theorem loc_big : Loc z bigR :=
  (Loc.next.bind (g := fun c r => _) fun c => (Loc.ask (decide (c = 127) || decide (c = 128))).bind (g := fun _ r => _) fun _ => (Loc.flip (decide (c = 127))).bind (g := fun _ r => _) fun _ => (loc_count 200).bind (g := fun n r => _) fun n => (loc_digF n.toNat []).bind (g := fun d r => _) fun d => (Loc.flip (decide (c = 127))).bind (g := fun _ r => _) fun _ => Loc.pure ((if decide (c = 127) then [45] else []) ++ d)).congr fun r => rfl
theorem loc_listF (val : RS → V × RS) (hv : Loc z val) : ∀ (n : Nat) (c : UInt8) (acc : List V), Loc z (listF val n c acc)
  | 0, c, acc => Loc.pure acc
  | n + 1, c, acc => by
    have h1 : Loc z (fun r => if c = 0 then (acc, r) else (fun r => if r.f then listF val n (nextR r).1 acc (nextR r).2 else listF val n (nextR (val r).2).1 (acc ++ [(val r).1]) (nextR (val r).2).2) (askR (decide (c = 1) && decide (acc.length < 16)) r)) := by
      refine Loc.ite _ (Loc.pure acc) ((Loc.ask (decide (c = 1) && decide (acc.length < 16))).bind (g := fun _ r => if r.f then listF val n (nextR r).1 acc (nextR r).2 else listF val n (nextR (val r).2).1 (acc ++ [(val r).1]) (nextR (val r).2).2) fun _ => ?_)
      have ha : Loc z (fun r => listF val n (nextR r).1 acc (nextR r).2) := Loc.next.bind (g := fun c r => listF val n c acc r) fun c => loc_listF val hv n c acc
      have hb : Loc z (fun r => listF val n (nextR (val r).2).1 (acc ++ [(val r).1]) (nextR (val r).2).2) := hv.bind (g := fun v r => listF val n (nextR r).1 (acc ++ [v]) (nextR r).2) fun v => Loc.next.bind (g := fun c r => listF val n c (acc ++ [v]) r) fun c => loc_listF val hv n c _
      refine ⟨fun r hr => ?_, fun r hr => ?_, fun r => ?_⟩
      · have e : (apR r z).f = false := hr
        simp only [hr, e, Bool.false_eq_true, if_false]
        exact hb.loc r hr
      · simp only [hr, if_true]; exact ha.stk r hr
      · split
        · exact ha.le r
        · exact hb.le r
    exact h1.congr fun r => by simp only [listF]

theorem nextR_step (r : RS) : (nextR r).1 = 0 ∨ (nextR r).2.s.length < r.s.length := by
  cases hf : (nextR r).2.f with
  | false => exact .inr ((nextR_len r).2 hf)
  | true =>
    left
    unfold nextR at hf ⊢
    split
    · rfl
    · rename_i h; rw [if_neg h] at hf; dsimp only at hf
      unfold askR at h
      split at h
      · exact absurd hf h
      · simp at h
theorem strF_fuel : ∀ (n n' : Nat) (m : Int) (acc : Str) (r : RS), r.s.length + 2 ≤ n → r.s.length + 2 ≤ n' → strF n m acc r = strF n' m acc r
  | 0, _, m, acc, r, h, _ => by omega
  | n + 1, 0, m, acc, r, _, h => by omega
  | n + 1, n' + 1, m, acc, r, h, h' => by
    have hle := askR_le (decide ((acc.length : Int) ≤ m)) r
    simp only [strF]
    generalize askR (decide ((acc.length : Int) ≤ m)) r = r0 at *
    split
    · rfl
    · split
      · rename_i hc
        split
        · rfl
        · rename_i hz
          split
          · rfl
          · rename_i hq
            have h1 := nextR_le r0
            have h2 : (nextR (nextR r0).2).2.s.length < (nextR r0).2.s.length := by
              rcases nextR_step (nextR r0).2 with h2 | h2
              · exact absurd h2 hq
              · exact h2
            have h3 := askR_le (decide ((nextR (nextR r0).2).1 = 0) || decide ((nextR (nextR r0).2).1 = 255)) (nextR (nextR r0).2).2
            exact strF_fuel n n' m _ _ (by omega) (by omega)
      · rename_i hc
        have h2 : (nextR r0).2.s.length < r0.s.length := by
          rcases nextR_step r0 with h2 | h2
          · exact absurd h2 hc
          · exact h2
        exact strF_fuel n n' m _ _ (by omega) (by omega)
theorem listF_fuel (val : RS → V × RS) (hl : ∀ r, (val r).2.s.length ≤ r.s.length) : ∀ (n n' : Nat) (c : UInt8) (acc : List V) (r : RS), (c = 0 ∨ r.s.length + 2 ≤ n) → 1 ≤ n → (c = 0 ∨ r.s.length + 2 ≤ n') → 1 ≤ n' → listF val n c acc r = listF val n' c acc r
  | 0, _, c, acc, r, _, h, _, _ => by omega
  | n + 1, 0, c, acc, r, _, _, _, h => by omega
  | n + 1, n' + 1, c, acc, r, h, _, h', _ => by
    have hle := askR_le (decide (c = 1) && decide (acc.length < 16)) r
    simp only [listF]
    generalize askR (decide (c = 1) && decide (acc.length < 16)) r = r0 at *
    split
    · rfl
    · rename_i hc
      have h : r.s.length + 2 ≤ n + 1 := by rcases h with h | h; exact absurd h hc; exact h
      have h' : r.s.length + 2 ≤ n' + 1 := by rcases h' with h | h; exact absurd h hc; exact h
      split
      · have h2 := nextR_step r0
        exact listF_fuel val hl n n' _ _ _ (h2.imp id fun h2 => by omega) (by omega) (h2.imp id fun h2 => by omega) (by omega)
      · have h2 := nextR_step (val r0).2
        have h3 := hl r0
        exact listF_fuel val hl n n' _ _ _ (h2.imp id fun h2 => by omega) (by omega) (h2.imp id fun h2 => by omega) (by omega)

theorem Loc.fuel {f : RS → α × RS} (F : Nat → RS → α × RS) (hF : ∀ n, Loc z (F n)) (h : ∀ r, f r = F (r.s.length + 2) r) (hn : ∀ n r, r.s.length + 2 ≤ n → F (r.s.length + 2) r = F n r) : Loc z f := by
  refine ⟨fun r hr => ?_, fun r hr => by rw [h]; exact (hF _).stk r hr, fun r => by rw [h]; exact (hF _).le r⟩
  rw [h r, h (apR r z), hn ((apR r z).s.length + 2) r (by simp [apR])]
  exact (hF _).loc r hr
theorem loc_str (m : Int) : Loc z (strR m) := Loc.fuel (fun n => strF n m []) (fun n => loc_strF n m []) (fun r => rfl) fun n r h => strF_fuel _ _ _ _ _ (Nat.le_refl _) h
theorem loc_list {val : RS → V × RS} (hv : Loc z val) : Loc z (listR val) :=
  Loc.fuel (fun n r => listF val n (nextR r).1 [] (nextR r).2) (fun n => Loc.next.bind (g := fun c r => listF val n c [] r) fun c => loc_listF val hv n c []) (fun r => rfl) fun n r h => by
    have h2 := nextR_le r
    exact listF_fuel val hv.le _ _ _ _ _ (.inr (by omega)) (by omega) (.inr (by omega)) (by omega)
theorem loc_valD : ∀ k : Nat, Loc z (valD k)
  | 0 => (Loc.next.bind (g := fun c r => _) fun c => (Loc.ask false).bind (g := fun _ r => _) fun _ => Loc.pure (V.mk (c.toNat : Int) 0 [] [])).congr fun r => rfl
  | k + 1 =>
    (Loc.next.bind (g := fun c r => _) fun c => (Loc.ask (decide (1 ≤ c.toNat) && decide (c.toNat ≤ 6))).bind (g := fun _ r => _) fun _ => Loc.guard (V.mk (c.toNat : Int) 0 [] [])
      (Loc.ite (c = 1) (loc_flag.map fun b => V.mk 1 (if b then 1 else 0) [] []) (Loc.ite (c = 2) (loc_num.map fun n => V.mk 2 n [] []) (Loc.ite (c = 3) (loc_big.map fun s => V.mk 3 0 s [])
        (Loc.ite (c = 4) ((loc_str 4096).map fun s => V.mk 4 0 s []) (Loc.ite (c = 5) ((loc_list (loc_valD k)).map fun l => V.mk 5 0 [] l)
          ((loc_str 4096).bind (g := fun s r => _) fun s => (loc_list (loc_valD k)).map fun l => V.mk 6 0 s l))))))).congr fun r => by
      simp only [valD]
theorem loc_v : Loc z vR :=
  ((loc_valD 64).bind (g := fun v r => _) fun v => (Loc.ask (mayV v)).bind (g := fun _ r => _) fun _ => Loc.guard noV (Loc.pure v)).congr fun r => by
    unfold vR
    dsimp only
    rw [ite_pair]
end
end Sx
set_option linter.unusedVariables false
set_option linter.unusedSimpArgs false
set_option maxRecDepth 10000
namespace Sx
open Go Go.Proofs
section
variable {C : Ctx} {H : Heap}
end
end Sx
set_option linter.unusedVariables false
set_option linter.unusedSimpArgs false
set_option maxRecDepth 10000
namespace Sx
open Go Go.Proofs
structure Tl where
  n : Int
  s : Str
  v : V
/-- what is told -/
def tlR (k m : Int) (r : RS) : Tl × RS :=
  if k = 0 then (⟨(numR r).1, [], noV⟩, (numR r).2)
  else if k = 1 then (⟨(countR m r).1, [], noV⟩, (countR m r).2)
  else if k = 2 then (⟨0, (strR m r).1, noV⟩, (strR m r).2)
  else if k = 3 then (⟨if (flagR r).1 then 1 else 0, [], noV⟩, (flagR r).2)
  else (⟨0, [], (vR r).1⟩, (vR r).2)
theorem loc_tl {z : Str} (k m : Int) : Loc z (tlR k m) :=
  (Loc.ite (k = 0) (loc_num.map fun n => (⟨n, [], noV⟩ : Tl)) (Loc.ite (k = 1) ((loc_count m).map fun n => (⟨n, [], noV⟩ : Tl)) (Loc.ite (k = 2) ((loc_str m).map fun s => (⟨0, s, noV⟩ : Tl)) (Loc.ite (k = 3) (loc_flag.map fun b => (⟨if b then 1 else 0, [], noV⟩ : Tl)) (loc_v.map fun v => (⟨0, [], v⟩ : Tl)))))).congr fun r => rfl
structure TIs (A : Heap) (d : Tl) (o : Bool) (t : T_law03_told) : Prop where
  n : t.n_ = d.n
  s : t.s_ = d.s
  v : VIs A d.v t.v_
  o : t.ok_ = o
theorem TIs.le {A B : Heap} {d : Tl} {o : Bool} {t : T_law03_told} (h : TIs A d o t) (hle : A.le B) : TIs B d o t := ⟨h.n, h.s, h.v.le hle, h.o⟩
theorem noV_is (A : Heap) : VIs A noV T_api_Value.zero := VIs_iff.2 ⟨rfl, rfl, rfl, VRow.nil A⟩
theorem new_put {H A : Heap} {b : Nat} {g : GO} {e : Bool × GO} (h : H b = some e) : Heap.new H (A.put b g) = Heap.new H A := by
  funext x
  unfold Heap.new
  by_cases hx : x = b
  · subst hx; simp [h]
  · rw [Heap.put_ne _ _ _ hx]
theorem new_mono {H H' A : Heap} (hle : H.le H') : (Heap.new H' A).le (Heap.new H A) := fun x e h => by
  obtain ⟨h1, h2⟩ := Heap.new_inv h
  exact Heap.new_some h2 (hle.none h1)
section
variable {C : Ctx} {H : Heap}
theorem vR_VB {r : RS} (hl : r.s.length ≤ 140737488355320) : VB (vR r).1 := by
  have h := valD_VB 64 r hl
  unfold vR
  dsimp only
  split
  · simp [noV, VB, VBs]
  · exact h
theorem tlR_VB {k m : Int} {r : RS} (hl : r.s.length ≤ 140737488355320) : VB (tlR k m r).1.v := by
  have h0 : VB noV := by simp [noV, VB, VBs]
  unfold tlR
  split
  · exact h0
  · split
    · exact h0
    · split
      · exact h0
      · split
        · exact h0
        · exact vR_VB hl
theorem of_ok {b : Nat} {r : RS} {q : T_law03_Ask} {K : T_law03_told → Heap → Prop} (h : Rdr H b r) (hl : r.s.length ≤ 140737488355320)
    (k : ∀ H2 t, Heap.but b H H2 → Rdr H2 b (tlR q.Kind q.Most r).2 → TIs (Heap.new H H2) (tlR q.Kind q.Most r).1 (!(tlR q.Kind q.Most r).2.f) t → K t H2) : c_law03_Ask_of C q (some (b, 0)) K H := by
  apply ad_law03_Ask_of
  unfold sh_law03_Ask_of
  obtain ⟨q0, hq0, _⟩ := h.ok
  intro b1 n1 b3 n3 b5 n5
  have nb1 : b1 ≠ b := fun e => by rw [e, hq0] at n1; cases n1
  have n31 : b3 ≠ b1 := fun e => by rw [e, Heap.put_same] at n3; cases n3
  have n3' : H b3 = none := by rwa [Heap.put_ne _ _ _ n31] at n3
  have nb3 : b3 ≠ b := fun e => by rw [e, hq0] at n3'; cases n3'
  have n53 : b5 ≠ b3 := fun e => by rw [e, Heap.put_same] at n5; cases n5
  rw [Heap.put_ne _ _ _ n53] at n5
  have n51 : b5 ≠ b1 := fun e => by rw [e, Heap.put_same] at n5; cases n5
  have n5' : H b5 = none := by rwa [Heap.put_ne _ _ _ n51] at n5
  have nb5 : b5 ≠ b := fun e => by rw [e, hq0] at n5'; cases n5'
  have h1 : (((H.put b1 (.row (T_law03_Ask.c q))).put b3 (.row (T_law03_told.c T_law03_told.zero))).put b5 (.row (T_law03_told.c T_law03_told.zero))) b1 = some (true, .row (T_law03_Ask.c q)) := by
    rw [Heap.put_ne _ _ _ (Ne.symm n51), Heap.put_ne _ _ _ (Ne.symm n31), Heap.put_same]
  have h3 : (((H.put b1 (.row (T_law03_Ask.c q))).put b3 (.row (T_law03_told.c T_law03_told.zero))).put b5 (.row (T_law03_told.c T_law03_told.zero))) b3 = some (true, .row (T_law03_told.c T_law03_told.zero)) := by
    rw [Heap.put_ne _ _ _ (Ne.symm n53), Heap.put_same]
  have h5 : (((H.put b1 (.row (T_law03_Ask.c q))).put b3 (.row (T_law03_told.c T_law03_told.zero))).put b5 (.row (T_law03_told.c T_law03_told.zero))) b5 = some (true, .row (T_law03_told.c T_law03_told.zero)) := Heap.put_same ..
  have hle : H.le (((H.put b1 (.row (T_law03_Ask.c q))).put b3 (.row (T_law03_told.c T_law03_told.zero))).put b5 (.row (T_law03_told.c T_law03_told.zero))) :=
    ((Heap.le_put n1).trans (Heap.le_put n3)).trans (Heap.le_put (by rw [Heap.put_ne _ _ _ n53]; exact n5))
  generalize (((H.put b1 (.row (T_law03_Ask.c q))).put b3 (.row (T_law03_told.c T_law03_told.zero))).put b5 (.row (T_law03_told.c T_law03_told.zero))) = B at *
  have hr := h.le hle
  have hb : B b = some (true, .row [slv q0, .int .u8 (r.t.toNat : Int), .bool r.f]) := hle _ _ hq0
  -- behind the question
  refine ⟨fun _ A => ∃ t, Heap.but b (B.del b5) A ∧ Rdr A b (tlR q.Kind q.Most r).2 ∧ A b5 = some (true, .row (T_law03_told.c t)) ∧ t.n_ = (tlR q.Kind q.Most r).1.n ∧ t.s_ = (tlR q.Kind q.Most r).1.s ∧ VIs (Heap.new B A) (tlR q.Kind q.Most r).1.v t.v_, ?_, ?_⟩
  · have fin : ∀ {A : Heap} {t : T_law03_told}, Heap.but b B A → Rdr A b (tlR q.Kind q.Most r).2 → t.n_ = (tlR q.Kind q.Most r).1.n → t.s_ = (tlR q.Kind q.Most r).1.s → VIs (Heap.new B A) (tlR q.Kind q.Most r).1.v t.v_ →
        ∃ t2, Heap.but b (B.del b5) (A.put b5 (.row (T_law03_told.c t))) ∧ Rdr (A.put b5 (.row (T_law03_told.c t))) b (tlR q.Kind q.Most r).2 ∧ (A.put b5 (.row (T_law03_told.c t))) b5 = some (true, .row (T_law03_told.c t2)) ∧ t2.n_ = (tlR q.Kind q.Most r).1.n ∧ t2.s_ = (tlR q.Kind q.Most r).1.s ∧ VIs (Heap.new B (A.put b5 (.row (T_law03_told.c t)))) (tlR q.Kind q.Most r).1.v t2.v_ := by
      intro A t e1 e2 e3 e4 e5
      refine ⟨t, fun x e hx hh => ?_, e2.beside (e1 _ _ nb5 h5) nb5, Heap.put_same .., e3, e4, by rw [new_put h5]; exact e5⟩
      by_cases hx5 : x = b5
      · rw [hx5, Heap.del_same] at hh; cases hh
      · rw [Heap.del_ne _ hx5] at hh
        rw [Heap.put_ne _ _ _ hx5]; exact e1 _ _ hx hh
    refine ⟨q.Kind, by simp [rd, h1, GO.cells?, T_law03_Ask.c], ift.of (fun e0 => ?_) fun e0 => ?_⟩
    · have e0 : q.Kind = 0 := by simpa using e0
      refine readNum_ok hr fun A hA rA => ?_
      refine ⟨_, hA _ _ nb5 h5, by simp [T_law03_told.c], ?_⟩
      have et : tlR q.Kind q.Most r = (⟨(numR r).1, [], noV⟩, (numR r).2) := by unfold tlR; rw [if_pos e0]
      rw [et] at fin ⊢
      exact fin (t := { T_law03_told.zero with n_ := (numR r).1 }) hA rA rfl rfl (noV_is _)
    have e0 : ¬ q.Kind = 0 := by simpa using e0
    refine ift.of (fun e1 => ?_) fun e1 => ?_
    · have e1 : q.Kind = 1 := by simpa using e1
      refine ⟨q.Most, by simp [rd, h1, GO.cells?, T_law03_Ask.c], ?_⟩
      refine readCount_ok hr fun A hA rA => ?_
      refine ⟨_, hA _ _ nb5 h5, by simp [T_law03_told.c], ?_⟩
      have et : tlR q.Kind q.Most r = (⟨(countR q.Most r).1, [], noV⟩, (countR q.Most r).2) := by unfold tlR; rw [if_neg e0, if_pos e1]
      rw [et] at fin ⊢
      exact fin (t := { T_law03_told.zero with n_ := (countR q.Most r).1 }) hA rA rfl rfl (noV_is _)
    have e1 : ¬ q.Kind = 1 := by simpa using e1
    refine ift.of (fun e2 => ?_) fun e2 => ?_
    · have e2 : q.Kind = 2 := by simpa using e2
      refine ⟨q.Most, by simp [rd, h1, GO.cells?, T_law03_Ask.c], ?_⟩
      refine readStr_ok hr hl fun A hA rA => ?_
      refine ⟨_, hA _ _ nb5 h5, by simp [T_law03_told.c], ?_⟩
      have et : tlR q.Kind q.Most r = (⟨0, (strR q.Most r).1, noV⟩, (strR q.Most r).2) := by unfold tlR; rw [if_neg e0, if_neg e1, if_pos e2]
      rw [et] at fin ⊢
      exact fin (t := { T_law03_told.zero with s_ := (strR q.Most r).1 }) hA rA rfl rfl (noV_is _)
    have e2 : ¬ q.Kind = 2 := by simpa using e2
    refine ift.of (fun e3 => ?_) fun e3 => ?_
    · have e3 : q.Kind = 3 := by simpa using e3
      refine readFlag_ok hr fun A hA rA => ?_
      have et : tlR q.Kind q.Most r = (⟨if (flagR r).1 then 1 else 0, [], noV⟩, (flagR r).2) := by unfold tlR; rw [if_neg e0, if_neg e1, if_neg e2, if_pos e3]
      rw [et] at fin ⊢
      refine ift.of (fun hf => ?_) fun hf => ?_
      · refine ⟨_, hA _ _ nb5 h5, by simp [T_law03_told.c], ?_⟩
        rw [hf] at fin ⊢
        exact fin (t := { T_law03_told.zero with n_ := 1 }) hA rA rfl rfl (noV_is _)
      · rw [hf]
        exact ⟨T_law03_told.zero, fun x e hx hh => by
          by_cases hx5 : x = b5
          · rw [hx5, Heap.del_same] at hh; cases hh
          · rw [Heap.del_ne _ hx5] at hh; exact hA _ _ hx hh, rA, hA _ _ nb5 h5, rfl, rfl, noV_is _⟩
    have e3 : ¬ q.Kind = 3 := by simpa using e3
    refine readValue_ok hr hl fun A y hA rA vA => ?_
    refine ⟨_, hA _ _ nb5 h5, by simp [T_law03_told.c, T_api_Value.c], ?_⟩
    have et : tlR q.Kind q.Most r = (⟨0, [], (vR r).1⟩, (vR r).2) := by unfold tlR; rw [if_neg e0, if_neg e1, if_neg e2, if_neg e3]
    rw [et] at fin ⊢
    exact fin (t := { T_law03_told.zero with v_ := y }) hA rA rfl rfl vA
  · rintro _ A ⟨t, hA, rA, a5, t1, t2, t3⟩
    have a3 : A b3 = some (true, .row (T_law03_told.c T_law03_told.zero)) := hA _ _ nb3 (by rw [Heap.del_ne _ (Ne.symm n53)]; exact h3)
    refine ok_ok rA ⟨_, a5, by simp [T_law03_told.c], ?_⟩
    refine ⟨{ t with ok_ := !(tlR q.Kind q.Most r).2.f }, rds_row (Heap.put_same ..) fun j v hj => by simpa [T_law03_told.c] using hj, ?_⟩
    have a3' : (A.put b5 (.row ((T_law03_told.c t).set (0 + 6) (.bool (!(tlR q.Kind q.Most r).2.f))))) b3 = some (true, .row (T_law03_told.c T_law03_told.zero)) := by rw [Heap.put_ne _ _ _ (Ne.symm n53)]; exact a3
    refine ⟨_, a3', by simp [T_law03_told.c], ?_⟩
    refine ⟨{ t with ok_ := !(tlR q.Kind q.Most r).2.f }, rds_row (Heap.put_same ..) fun j v hj => by simpa [splice, T_law03_told.c] using hj, ?_⟩
    refine k _ _ (fun x e hx hh => ?_) ?_ ⟨t1, t2, ?_, rfl⟩
    · have hx3 : x ≠ b3 := fun e' => by rw [e', n3'] at hh; cases hh
      have hx5 : x ≠ b5 := fun e' => by rw [e', n5'] at hh; cases hh
      rw [Heap.put_ne _ _ _ hx3, Heap.put_ne _ _ _ hx5]
      exact hA _ _ hx (by rw [Heap.del_ne _ hx5]; exact hle _ _ hh)
    · exact (rA.beside a5 nb5).beside a3' nb3
    · refine VIs.le (new_mono hle) ?_
      rw [new_put h3, new_put h5]; exact t3
end
end Sx
set_option linter.unusedVariables false
set_option linter.unusedSimpArgs false
set_option maxRecDepth 10000
namespace Sx
open Go Go.Proofs
section
variable {C : Ctx} {H : Heap}
theorem same_ok {t u : T_law03_told} {d d2 : Tl} {o o2 : Bool} {K : Bool → Heap → Prop} (ht : TIs H d o t) (hu : TIs H d2 o2 u) (hB : VB d.v)
    (k : ∀ H2, H.le H2 → K ((d.n == d2.n) && ((d.s == d2.s) && ((o == o2) && sameV d.v d2.v))) H2) : c_law03_told_same C t u K H := by
  apply ad_law03_told_same
  unfold sh_law03_told_same
  intro b1 n1 b3 n3
  have n31 : b3 ≠ b1 := fun e => by rw [e, Heap.put_same] at n3; cases n3
  have h1 : ((H.put b1 (.row (T_law03_told.c t))).put b3 (.row (T_law03_told.c u))) b1 = some (true, .row (T_law03_told.c t)) := by rw [Heap.put_ne _ _ _ (Ne.symm n31), Heap.put_same]
  have h3 : ((H.put b1 (.row (T_law03_told.c t))).put b3 (.row (T_law03_told.c u))) b3 = some (true, .row (T_law03_told.c u)) := Heap.put_same ..
  have hle : H.le ((H.put b1 (.row (T_law03_told.c t))).put b3 (.row (T_law03_told.c u))) := (Heap.le_put n1).trans (Heap.le_put n3)
  generalize (H.put b1 (.row (T_law03_told.c t))).put b3 (.row (T_law03_told.c u)) = B at *
  have t1 := ht.n; have t2 := ht.s; have t4 := ht.o
  have u1 := hu.n; have u2 := hu.s; have u4 := hu.o
  refine ⟨d.n, by simp [rd, h1, GO.cells?, T_law03_told.c, t1], d2.n, by simp [rd, h3, GO.cells?, T_law03_told.c, u1], ?_⟩
  refine ⟨fun b A => B = A ∧ b = ((d.n == d2.n) && (d.s == d2.s)), ift.of (fun e => ?_) (fun e => ⟨rfl, by rw [e]; rfl⟩), ?_⟩
  · exact ⟨d.s, by simp [rd, h1, GO.cells?, T_law03_told.c, t2], d2.s, by simp [rd, h3, GO.cells?, T_law03_told.c, u2], rfl, by rw [e]; rfl⟩
  rintro _ _ ⟨rfl, rfl⟩
  refine ⟨fun b A => B = A ∧ b = (((d.n == d2.n) && (d.s == d2.s)) && (o == o2)), ift.of (fun e => ?_) (fun e => ⟨rfl, by rw [e]; rfl⟩), ?_⟩
  · exact ⟨o, by simp [rd, h1, GO.cells?, T_law03_told.c, t4], o2, by simp [rd, h3, GO.cells?, T_law03_told.c, u4], rfl, by rw [e]; rfl⟩
  rintro _ _ ⟨rfl, rfl⟩
  refine ⟨fun b A => H.le A ∧ b = ((((d.n == d2.n) && (d.s == d2.s)) && (o == o2)) && sameV d.v d2.v), ift.of (fun e => ?_) (fun e => ⟨hle, by rw [e]; rfl⟩), ?_⟩
  · refine ⟨t.v_, rds_row h1 fun j v hj => ?_, u.v_, rds_row h3 fun j v hj => ?_, ?_⟩
    · match j, hj with
      | 0, hj => simpa [T_law03_told.c, T_api_Value.c] using hj
      | 1, hj => simpa [T_law03_told.c, T_api_Value.c] using hj
      | 2, hj => simpa [T_law03_told.c, T_api_Value.c] using hj
      | 3, hj => simpa [T_law03_told.c, T_api_Value.c] using hj
      | j + 4, hj => simp [T_api_Value.c] at hj
    · match j, hj with
      | 0, hj => simpa [T_law03_told.c, T_api_Value.c] using hj
      | 1, hj => simpa [T_law03_told.c, T_api_Value.c] using hj
      | 2, hj => simpa [T_law03_told.c, T_api_Value.c] using hj
      | 3, hj => simpa [T_law03_told.c, T_api_Value.c] using hj
      | j + 4, hj => simp [T_api_Value.c] at hj
    · exact Same_ok (ht.v.le hle) (hu.v.le hle) hB ⟨hle, by rw [e]; rfl⟩
  · rintro _ A ⟨hA, rfl⟩
    have := k A hA
    simpa only [Bool.and_assoc] using this

/-- blocks but some -/
def Offs (A : Heap) (X : List Nat) : Heap := fun y => if y ∈ X then none else A y
theorem Offs.le {A : Heap} {X : List Nat} : (Offs A X).le A := fun y e h => by
  unfold Offs at h
  split at h
  · cases h
  · exact h
theorem Offs.get {A : Heap} {X : List Nat} {y : Nat} {e : Bool × GO} (h : A y = some e) (hy : y ∉ X) : Offs A X y = some e := by unfold Offs; rw [if_neg hy]; exact h
theorem Offs.inv {A : Heap} {X : List Nat} {y : Nat} {e : Bool × GO} (h : Offs A X y = some e) : A y = some e ∧ y ∉ X := by
  unfold Offs at h
  split at h
  · cases h
  · rename_i hy; exact ⟨h, hy⟩
theorem Rdr.butne {A B : Heap} {b c : Nat} {r : RS} {g : GO} (h : Rdr A c r) (hb : A b = some (true, g)) (hbut : Heap.but b A B) (hn : c ≠ b) : Rdr B c r := by
  obtain ⟨sl, h1, h2, h3, h4⟩ := h.ok
  exact ⟨sl, hbut _ _ hn h1, h2, h3, h4.ext (Heap.ext.of_but hbut hb)⟩
theorem Rdr.row {A : Heap} {b : Nat} {r : RS} (h : Rdr A b r) : ∃ g, A b = some (true, g) := by
  obtain ⟨sl, h1, _⟩ := h.ok
  exact ⟨_, h1⟩

/-- two readers; what was asked of them; where it is kept -/
def XL (br bx : Nat) (P R : Option (Nat × T_law03_told)) : List Nat := br :: bx :: ((match P with | some p => [p.1] | none => []) ++ (match R with | some p => [p.1] | none => []))
structure S (H0 A : Heap) (br bx : Nat) (r x : RS) (T U : Option (Tl × Bool × T_law03_told)) (P R : Option (Nat × T_law03_told)) : Prop where
  le : H0.le A
  rr : Rdr A br r
  rx : Rdr A bx x
  ne : br ≠ bx
  n0 : H0 br = none ∧ H0 bx = none
  hr : r.s.length ≤ 140737488355320 ∧ x.s.length ≤ 140737488355320
  hT : ∀ y, T = some y → TIs (Offs A (XL br bx P R)) y.1 y.2.1 y.2.2
  hU : ∀ y, U = some y → TIs (Offs A (XL br bx P R)) y.1 y.2.1 y.2.2
  hP : ∀ p, P = some p → A p.1 = some (true, .row (T_law03_told.c p.2)) ∧ H0 p.1 = none
  hR : ∀ p, R = some p → A p.1 = some (true, .row (T_law03_told.c p.2)) ∧ H0 p.1 = none
  nb : ∀ p, P = some p ∨ R = some p → p.1 ≠ br ∧ p.1 ≠ bx
  pr : ∀ p q, P = some p → R = some q → p.1 ≠ q.1
variable {H0 A : Heap} {br bx : Nat} {r x : RS} {T U : Option (Tl × Bool × T_law03_told)} {P R : Option (Nat × T_law03_told)}
theorem mem_XL {y : Nat} : y ∈ XL br bx P R ↔ y = br ∨ y = bx ∨ (∃ p, P = some p ∧ y = p.1) ∨ ∃ p, R = some p ∧ y = p.1 := by
  unfold XL
  cases P <;> cases R <;> simp
/-- a step that keeps all but one reader -/
theorem S.keep {A2 : Heap} {b : Nat} (h : S H0 A br bx r x T U P R) (hb : b = br ∨ b = bx) (hbut : Heap.but b A A2) : H0.le A2 ∧ (Offs A (XL br bx P R)).le (Offs A2 (XL br bx P R)) ∧ (∀ p, P = some p ∨ R = some p → A2 p.1 = some (true, .row (T_law03_told.c p.2)) ∧ H0 p.1 = none) := by
  have hb0 : H0 b = none := by
    rcases hb with rfl | rfl
    · exact h.n0.1
    · exact h.n0.2
  refine ⟨h.le.of_but hbut hb0, fun y e hy => ?_, fun p hp => ?_⟩
  · obtain ⟨h1, h2⟩ := Offs.inv hy
    refine Offs.get (hbut _ _ (fun e' => h2 (mem_XL.2 ?_)) h1) h2
    subst e'
    rcases hb with rfl | rfl
    · exact .inl rfl
    · exact .inr (.inl rfl)
  · have hne : p.1 ≠ b := fun e => by
      rcases hb with rfl | rfl
      · exact (h.nb p hp).1 e
      · exact (h.nb p hp).2 e
    rcases hp with hp | hp
    · exact ⟨hbut _ _ hne (h.hP p hp).1, (h.hP p hp).2⟩
    · exact ⟨hbut _ _ hne (h.hR p hp).1, (h.hR p hp).2⟩
theorem new_off {A2 : Heap} (h : S H0 A br bx r x T U P R) : (Heap.new A A2).le (Offs A2 (XL br bx P R)) := fun y e hy => by
  obtain ⟨h1, h2⟩ := Heap.new_inv hy
  refine Offs.get h2 fun hm => ?_
  rcases mem_XL.1 hm with rfl | rfl | ⟨p, hp, rfl⟩ | ⟨p, hp, rfl⟩
  · obtain ⟨g, hg⟩ := h.rr.row; rw [hg] at h1; cases h1
  · obtain ⟨g, hg⟩ := h.rx.row; rw [hg] at h1; cases h1
  · rw [(h.hP p hp).1] at h1; cases h1
  · rw [(h.hR p hp).1] at h1; cases h1
theorem tlR_le (k m : Int) (r : RS) : (tlR k m r).2.s.length ≤ r.s.length := (loc_tl (z := []) k m).le r
theorem S.readR {q : T_law03_Ask} {K : T_law03_told → Heap → Prop} (h : S H0 A br bx r x none U P R)
    (k : ∀ t A2, S H0 A2 br bx (tlR q.Kind q.Most r).2 x (some ((tlR q.Kind q.Most r).1, !(tlR q.Kind q.Most r).2.f, t)) U P R → K t A2) : c_law03_Ask_of C q (some (br, 0)) K A := by
  refine of_ok h.rr h.hr.1 fun A2 t hbut hr ht => k t A2 ?_
  obtain ⟨g, hg⟩ := h.rr.row
  obtain ⟨k1, k2, k3⟩ := h.keep (.inl rfl) hbut
  exact ⟨k1, hr, h.rx.butne hg hbut (Ne.symm h.ne), h.ne, h.n0, ⟨Nat.le_trans (tlR_le _ _ _) h.hr.1, h.hr.2⟩, fun y hy => by injection hy with hy; subst hy; exact ht.le (new_off h), fun y hy => (h.hU y hy).le k2, fun p hp => k3 p (.inl hp), fun p hp => k3 p (.inr hp), h.nb, h.pr⟩
theorem S.readX {q : T_law03_Ask} {K : T_law03_told → Heap → Prop} (h : S H0 A br bx r x T none P R)
    (k : ∀ t A2, S H0 A2 br bx r (tlR q.Kind q.Most x).2 T (some ((tlR q.Kind q.Most x).1, !(tlR q.Kind q.Most x).2.f, t)) P R → K t A2) : c_law03_Ask_of C q (some (bx, 0)) K A := by
  refine of_ok h.rx h.hr.2 fun A2 t hbut hr ht => k t A2 ?_
  obtain ⟨g, hg⟩ := h.rx.row
  obtain ⟨k1, k2, k3⟩ := h.keep (.inr rfl) hbut
  exact ⟨k1, h.rr.butne hg hbut h.ne, hr, h.ne, h.n0, ⟨h.hr.1, Nat.le_trans (tlR_le _ _ _) h.hr.2⟩, fun y hy => (h.hT y hy).le k2, fun y hy => by injection hy with hy; subst hy; exact ht.le (new_off h), fun p hp => k3 p (.inl hp), fun p hp => k3 p (.inr hp), h.nb, h.pr⟩
theorem off_new {c : Nat} {g : GO} {X Y : List Nat} (hc : A c = none) (hX : ∀ y, y ∈ Y → y = c ∨ y ∈ X) : (Offs A X).le (Offs (A.put c g) Y) := fun y e hy => by
  obtain ⟨h1, h2⟩ := Offs.inv hy
  have hne : y ≠ c := fun e' => by rw [e', hc] at h1; cases h1
  refine Offs.get (by rw [Heap.put_ne _ _ _ hne]; exact h1) fun hm => ?_
  rcases hX y hm with h3 | h3
  · exact hne h3
  · exact h2 h3
theorem S.newP {t : T_law03_told} {K : Nat → Heap → Prop} (h : S H0 A br bx r x T U none R) (k : ∀ c A2, S H0 A2 br bx r x T U (some (c, t)) R → K c A2) : nw (T_law03_told.c t) K A := by
  intro c hc
  refine k c _ ?_
  obtain ⟨g1, hg1⟩ := h.rr.row
  obtain ⟨g2, hg2⟩ := h.rx.row
  have e1 : c ≠ br := fun e => by rw [e, hg1] at hc; cases hc
  have e2 : c ≠ bx := fun e => by rw [e, hg2] at hc; cases hc
  have hle := Heap.le_put hc (g := .row (T_law03_told.c t)) (m := true)
  have hoff : (Offs A (XL br bx none R)).le (Offs (A.put c (.row (T_law03_told.c t))) (XL br bx (some (c, t)) R)) := off_new hc fun y hy => by
    rcases mem_XL.1 hy with h1 | h1 | ⟨p, hp, h1⟩ | ⟨p, hp, h1⟩
    · exact .inr (mem_XL.2 (.inl h1))
    · exact .inr (mem_XL.2 (.inr (.inl h1)))
    · injection hp with hp; subst hp; exact .inl h1
    · exact .inr (mem_XL.2 (.inr (.inr (.inr ⟨p, hp, h1⟩))))
  refine ⟨h.le.trans hle, h.rr.le hle, h.rx.le hle, h.ne, h.n0, h.hr, fun y hy => (h.hT y hy).le hoff, fun y hy => (h.hU y hy).le hoff, fun p hp => ?_, fun p hp => ⟨hle _ _ (h.hR p hp).1, (h.hR p hp).2⟩, fun p hp => ?_, fun p q hp hq => ?_⟩
  · injection hp with hp; subst hp; exact ⟨Heap.put_same .., h.le.none hc⟩
  · rcases hp with hp | hp
    · injection hp with hp; subst hp; exact ⟨e1, e2⟩
    · exact h.nb p (.inr hp)
  · injection hp with hp; subst hp
    exact fun e => by dsimp only at e; rw [e, (h.hR q hq).1] at hc; cases hc
theorem S.newR {t : T_law03_told} {K : Nat → Heap → Prop} (h : S H0 A br bx r x T U P none) (k : ∀ c A2, S H0 A2 br bx r x T U P (some (c, t)) → K c A2) : nw (T_law03_told.c t) K A := by
  intro c hc
  refine k c _ ?_
  obtain ⟨g1, hg1⟩ := h.rr.row
  obtain ⟨g2, hg2⟩ := h.rx.row
  have e1 : c ≠ br := fun e => by rw [e, hg1] at hc; cases hc
  have e2 : c ≠ bx := fun e => by rw [e, hg2] at hc; cases hc
  have hle := Heap.le_put hc (g := .row (T_law03_told.c t)) (m := true)
  have hoff : (Offs A (XL br bx P none)).le (Offs (A.put c (.row (T_law03_told.c t))) (XL br bx P (some (c, t)))) := off_new hc fun y hy => by
    rcases mem_XL.1 hy with h1 | h1 | ⟨p, hp, h1⟩ | ⟨p, hp, h1⟩
    · exact .inr (mem_XL.2 (.inl h1))
    · exact .inr (mem_XL.2 (.inr (.inl h1)))
    · exact .inr (mem_XL.2 (.inr (.inr (.inl ⟨p, hp, h1⟩))))
    · injection hp with hp; subst hp; exact .inl h1
  refine ⟨h.le.trans hle, h.rr.le hle, h.rx.le hle, h.ne, h.n0, h.hr, fun y hy => (h.hT y hy).le hoff, fun y hy => (h.hU y hy).le hoff, fun p hp => ⟨hle _ _ (h.hP p hp).1, (h.hP p hp).2⟩, fun p hp => ?_, fun p hp => ?_, fun p q hp hq => ?_⟩
  · injection hp with hp; subst hp; exact ⟨Heap.put_same .., h.le.none hc⟩
  · rcases hp with hp | hp
    · exact h.nb p (.inl hp)
    · injection hp with hp; subst hp; exact ⟨e1, e2⟩
  · injection hq with hq; subst hq
    exact fun e => by dsimp only at e; rw [← e, (h.hP p hp).1] at hc; cases hc
theorem off_put {c : Nat} {g : GO} {X : List Nat} (hc : c ∈ X) : (Offs A X).le (Offs (A.put c g) X) := fun y e hy => by
  obtain ⟨h1, h2⟩ := Offs.inv hy
  have hne : y ≠ c := fun e' => by subst e'; exact h2 hc
  exact Offs.get (by rw [Heap.put_ne _ _ _ hne]; exact h1) h2
theorem told_splice (t u : T_law03_told) : splice (T_law03_told.c t) 0 (T_law03_told.c u) = T_law03_told.c u := by simp [splice, T_law03_told.c]
theorem S.setP {c : Nat} {t u : T_law03_told} {K : Heap → Prop} (h : S H0 A br bx r x T U (some (c, t)) R) (k : ∀ A2, S H0 A2 br bx r x T U (some (c, u)) R → K A2) : stT (c, 0) (T_law03_told.c u) K A := by
  have hc := h.hP _ rfl
  have hn := h.nb _ (.inl rfl)
  refine ⟨_, hc.1, by simp [T_law03_told.c], k _ ?_⟩
  rw [told_splice]
  have hmem : c ∈ XL br bx (some (c, u)) R := mem_XL.2 (.inr (.inr (.inl ⟨_, rfl, rfl⟩)))
  have hoff : (Offs A (XL br bx (some (c, u)) R)).le (Offs (A.put c (.row (T_law03_told.c u))) (XL br bx (some (c, u)) R)) := off_put hmem
  refine ⟨fun y e hy => ?_, h.rr.beside hc.1 hn.1, h.rx.beside hc.1 hn.2, h.ne, h.n0, h.hr, fun y hy => (h.hT y hy).le hoff, fun y hy => (h.hU y hy).le hoff, fun p hp => ?_, fun p hp => ⟨?_, (h.hR p hp).2⟩, fun p hp => ?_, fun p q hp hq => ?_⟩
  · have : y ≠ c := fun e' => by subst e'; have := hc.2; dsimp only at this; rw [hy] at this; cases this
    rw [Heap.put_ne _ _ _ this]; exact h.le _ _ hy
  · injection hp with hp; subst hp; exact ⟨Heap.put_same .., hc.2⟩
  · have := h.pr (c, t) p rfl hp
    rw [Heap.put_ne _ _ _ (Ne.symm this)]; exact (h.hR p hp).1
  · rcases hp with hp | hp
    · injection hp with hp; subst hp; exact hn
    · exact h.nb p (.inr hp)
  · injection hp with hp; subst hp; exact h.pr (c, t) q rfl hq
theorem S.setR {c : Nat} {t u : T_law03_told} {K : Heap → Prop} (h : S H0 A br bx r x T U P (some (c, t))) (k : ∀ A2, S H0 A2 br bx r x T U P (some (c, u)) → K A2) : stT (c, 0) (T_law03_told.c u) K A := by
  have hc := h.hR _ rfl
  have hn := h.nb _ (.inr rfl)
  refine ⟨_, hc.1, by simp [T_law03_told.c], k _ ?_⟩
  rw [told_splice]
  have hmem : c ∈ XL br bx P (some (c, u)) := mem_XL.2 (.inr (.inr (.inr ⟨_, rfl, rfl⟩)))
  have hoff : (Offs A (XL br bx P (some (c, u)))).le (Offs (A.put c (.row (T_law03_told.c u))) (XL br bx P (some (c, u)))) := off_put hmem
  refine ⟨fun y e hy => ?_, h.rr.beside hc.1 hn.1, h.rx.beside hc.1 hn.2, h.ne, h.n0, h.hr, fun y hy => (h.hT y hy).le hoff, fun y hy => (h.hU y hy).le hoff, fun p hp => ⟨?_, (h.hP p hp).2⟩, fun p hp => ?_, fun p hp => ?_, fun p q hp hq => ?_⟩
  · have : y ≠ c := fun e' => by subst e'; have := hc.2; dsimp only at this; rw [hy] at this; cases this
    rw [Heap.put_ne _ _ _ this]; exact h.le _ _ hy
  · have := h.pr p (c, t) hp rfl
    rw [Heap.put_ne _ _ _ this]; exact (h.hP p hp).1
  · injection hp with hp; subst hp; exact ⟨Heap.put_same .., hc.2⟩
  · rcases hp with hp | hp
    · exact h.nb p (.inl hp)
    · injection hp with hp; subst hp; exact hn
  · injection hq with hq; subst hq; exact h.pr p (c, t) hp rfl

/-- questions that came in -/
def Asks (A : Heap) (s : Sl) (l : List T_law03_Ask) : Prop := rdsl A s (l.flatMap T_law03_Ask.c) ∧ s.len = l.length
theorem ask_flat : ∀ (l : List T_law03_Ask) (i : Nat) (q : T_law03_Ask), l[i]? = some q → ((l.flatMap T_law03_Ask.c).drop (i * 2)).take 2 = T_law03_Ask.c q
  | [], i, q, h => by simp at h
  | a :: l, 0, q, h => by simp at h; subst h; simp [T_law03_Ask.c]
  | a :: l, i + 1, q, h => by
    have ih := ask_flat l i q (by simpa using h)
    have e : (i + 1) * 2 = i * 2 + 1 + 1 := by omega
    rw [List.flatMap_cons, e]
    simpa [T_law03_Ask.c] using ih
theorem Asks.ld {A : Heap} {s : Sl} {l : List T_law03_Ask} {i : Nat} {K : T_law03_Ask → Prop} (h : Asks A s l) {q : T_law03_Ask} (hq : l[i]? = some q) (k : K q) : ixa s (i : Int) fun p => ldT A T_law03_Ask.c (p.1, p.2 + (i : Int).toNat * 2) K := by
  obtain ⟨h1, h2⟩ := h
  have hi := (List.getElem?_eq_some_iff.1 hq).1
  rcases h1 with h1 | ⟨hx, p, hp, hr⟩
  · have := congrArg List.length h1
    have e : ∀ (l : List T_law03_Ask), (l.flatMap T_law03_Ask.c).length = l.length * 2 := by
      intro l
      induction l with
      | nil => rfl
      | cons a l ih => rw [List.flatMap_cons, List.length_append, ih]; simp [T_law03_Ask.c]; omega
    rw [e] at this
    simp at this
    omega
  · refine ⟨p, hp, hx, by omega, by omega, q, ?_, k⟩
    rw [Int.toNat_natCast]
    refine rds_of fun j v hj => ?_
    have hf := ask_flat l i q hq
    have hj' : ((l.flatMap T_law03_Ask.c).drop (i * 2))[j]? = some v := by
      rw [← hf, List.getElem?_take] at hj
      split at hj
      · exact hj
      · cases hj
    rw [List.getElem?_drop] at hj'
    have := rds_get hr _ _ hj'
    rw [Nat.add_assoc]; exact this

theorem CodeBehind_ok {pb pl pt : Sl} {a z : Str} {l : List T_law03_Ask} {K : Bool → Heap → Prop} (hb : rdsl H pb (bytesV a)) (hbl : pb.len = a.length) (hl : Asks H pl l) (ht : rdsl H pt (bytesV z)) (htl : pt.len = z.length) (k : ∀ H2, K true H2) : c_law03_CodeBehind C pb pl pt K H := by
  apply ad_law03_CodeBehind
  unfold sh_law03_CodeBehind
  refine ⟨fun b A => H.le A ∧ (b = false → a.length ≤ 3000 ∧ z.length ≤ 3000 ∧ l.length ≤ 3000), ?_, ?_⟩
  · refine ift.of (fun h => ⟨Heap.le.refl _, fun h => by cases h⟩) (fun h => ?_)
    simp only [Bool.or_eq_false_iff, decide_eq_false_iff_not] at h
    have hll := hl.2
    exact works_ok fun H2 hle => ⟨hle, fun _ => ⟨by omega, by omega, by omega⟩⟩
  rintro b3 H1 ⟨hle1, h3⟩
  refine ift.of (fun h => works_ok fun H2 _ => k H2) (fun h => ?_)
  obtain ⟨ha, hz, hl60⟩ := h3 h
  have hb1 := rdsl_le hle1 hb
  have ht1 := rdsl_le hle1 ht
  have hl1 : Asks H1 pl l := ⟨rdsl_le hle1 hl.1, hl.2⟩
  refine NewReader_ok hb1 hbl (by omega) fun br H2 n2 l2 r2 => ?_
  refine law_behind_ok (rdsl_le l2 hb1) hbl (rdsl_le l2 ht1) htl (by omega) fun q H3 h3 => ?_
  refine NewReader_ok h3.own.rdsl h3.lenB (by rw [List.length_append]; omega) fun bx H4 n4 l4 x4 => ?_
  have l23 := h3.le
  have r4 := (r2.le l23).le l4
  have l14 := (l2.trans l23).trans l4
  have n14 : H1 bx = none := (l2.trans l23).none n4
  have hne : br ≠ bx := fun e => by obtain ⟨g, hg⟩ := (r2.le l23).row; rw [e, n4] at hg; cases hg
  refine ⟨fun x A => ∃ (i : Nat) (r : RS), x = (i : Int) ∧ i ≤ l.length ∧ r.f = false ∧ r.s.length ≤ a.length ∧ S H1 A br bx r (apR r z) none none none none, fun x A => (l.length - x).toNat,
    ⟨0, ⟨a, 0, false⟩, rfl, Nat.zero_le _, rfl, Nat.le_refl _, ⟨l14, r4, x4, hne, ⟨n2, n14⟩, ⟨by dsimp only; omega, by simp [apR]; omega⟩, (fun y hy => by cases hy), (fun y hy => by cases hy), (fun p hp => by cases hp), (fun p hp => by cases hp), (fun p hp => by rcases hp with hp | hp <;> cases hp), (fun p q hp => by cases hp)⟩⟩, ?_⟩
  rintro x A ⟨i, r, rfl, hi, hrf, hrl, hS⟩
  have hll := hl.2
  refine ift.of (fun hlt => ?_) (fun hlt => k _)
  have hlt : i < l.length := by have := of_decide_eq_true hlt; omega
  obtain ⟨ask, hask⟩ : ∃ q, l[i]? = some q := ⟨_, List.getElem?_eq_getElem hlt⟩
  have hloc := (loc_tl (z := z) ask.Kind ask.Most).loc r hrf
  refine ⟨fun pq A2 => ∃ c c' t u, pq = ((c, 0), (c', 0)) ∧ S H1 A2 br bx (tlR ask.Kind ask.Most r).2 (tlR ask.Kind ask.Most (apR r z)).2 (some ((tlR ask.Kind ask.Most r).1, !(tlR ask.Kind ask.Most r).2.f, t)) (some ((tlR ask.Kind ask.Most (apR r z)).1, !(tlR ask.Kind ask.Most (apR r z)).2.f, u)) (some (c, t)) (some (c', u)), ?_, ?_⟩
  · refine ⟨H1, hS.le, ?_⟩
    refine hl1.ld hask (hl1.ld hask ?_)
    refine ⟨?_, ?_, ?_⟩
    · skip
      refine S.readR hS fun t A hS => ⟨hS.le, ?_⟩
      refine ⟨?_, ?_, ?_⟩
      · skip
        refine S.readX hS fun t A hS => ⟨hS.le, ?_⟩
        refine ⟨?_, ?_⟩
        · skip
          refine S.newP hS fun c A hS => ⟨hS.le, ?_⟩
          refine S.newR hS fun c A hS => ⟨hS.le, ?_⟩
          refine S.setP hS fun A hS => ⟨hS.le, ?_⟩
          refine S.setR hS fun A hS => ?_
          exact ⟨_, _, _, _, rfl, hS⟩
        · skip
          refine S.newR hS fun c A hS => ⟨hS.le, ?_⟩
          refine S.newP hS fun c A hS => ⟨hS.le, ?_⟩
          refine S.setP hS fun A hS => ⟨hS.le, ?_⟩
          refine S.setR hS fun A hS => ?_
          exact ⟨_, _, _, _, rfl, hS⟩
      · skip
        refine S.newP hS fun c A hS => ⟨hS.le, ?_⟩
        refine ⟨?_, ?_⟩
        · skip
          refine S.readX hS fun t A hS => ⟨hS.le, ?_⟩
          refine S.newR hS fun c A hS => ⟨hS.le, ?_⟩
          refine S.setP hS fun A hS => ⟨hS.le, ?_⟩
          refine S.setR hS fun A hS => ?_
          exact ⟨_, _, _, _, rfl, hS⟩
        · skip
          refine S.newR hS fun c A hS => ⟨hS.le, ?_⟩
          refine S.readX hS fun t A hS => ⟨hS.le, ?_⟩
          refine S.setP hS fun A hS => ⟨hS.le, ?_⟩
          refine S.setR hS fun A hS => ?_
          exact ⟨_, _, _, _, rfl, hS⟩
      · skip
        refine S.newR hS fun c A hS => ⟨hS.le, ?_⟩
        refine ⟨?_, ?_⟩
        · skip
          refine S.readX hS fun t A hS => ⟨hS.le, ?_⟩
          refine S.newP hS fun c A hS => ⟨hS.le, ?_⟩
          refine S.setP hS fun A hS => ⟨hS.le, ?_⟩
          refine S.setR hS fun A hS => ?_
          exact ⟨_, _, _, _, rfl, hS⟩
        · skip
          refine S.newP hS fun c A hS => ⟨hS.le, ?_⟩
          refine S.readX hS fun t A hS => ⟨hS.le, ?_⟩
          refine S.setP hS fun A hS => ⟨hS.le, ?_⟩
          refine S.setR hS fun A hS => ?_
          exact ⟨_, _, _, _, rfl, hS⟩
    · skip
      refine S.newP hS fun c A hS => ⟨hS.le, ?_⟩
      refine ⟨?_, ?_⟩
      · skip
        refine S.readR hS fun t A hS => ⟨hS.le, ?_⟩
        refine ⟨?_, ?_⟩
        · skip
          refine S.readX hS fun t A hS => ⟨hS.le, ?_⟩
          refine S.newR hS fun c A hS => ⟨hS.le, ?_⟩
          refine S.setP hS fun A hS => ⟨hS.le, ?_⟩
          refine S.setR hS fun A hS => ?_
          exact ⟨_, _, _, _, rfl, hS⟩
        · skip
          refine S.newR hS fun c A hS => ⟨hS.le, ?_⟩
          refine S.readX hS fun t A hS => ⟨hS.le, ?_⟩
          refine S.setP hS fun A hS => ⟨hS.le, ?_⟩
          refine S.setR hS fun A hS => ?_
          exact ⟨_, _, _, _, rfl, hS⟩
      · skip
        refine S.newR hS fun c A hS => ⟨hS.le, ?_⟩
        refine S.readR hS fun t A hS => ⟨hS.le, ?_⟩
        refine S.readX hS fun t A hS => ⟨hS.le, ?_⟩
        refine S.setP hS fun A hS => ⟨hS.le, ?_⟩
        refine S.setR hS fun A hS => ?_
        exact ⟨_, _, _, _, rfl, hS⟩
    · skip
      refine S.newR hS fun c A hS => ⟨hS.le, ?_⟩
      refine ⟨?_, ?_⟩
      · skip
        refine S.readR hS fun t A hS => ⟨hS.le, ?_⟩
        refine ⟨?_, ?_⟩
        · skip
          refine S.readX hS fun t A hS => ⟨hS.le, ?_⟩
          refine S.newP hS fun c A hS => ⟨hS.le, ?_⟩
          refine S.setP hS fun A hS => ⟨hS.le, ?_⟩
          refine S.setR hS fun A hS => ?_
          exact ⟨_, _, _, _, rfl, hS⟩
        · skip
          refine S.newP hS fun c A hS => ⟨hS.le, ?_⟩
          refine S.readX hS fun t A hS => ⟨hS.le, ?_⟩
          refine S.setP hS fun A hS => ⟨hS.le, ?_⟩
          refine S.setR hS fun A hS => ?_
          exact ⟨_, _, _, _, rfl, hS⟩
      · skip
        refine S.newP hS fun c A hS => ⟨hS.le, ?_⟩
        refine S.readR hS fun t A hS => ⟨hS.le, ?_⟩
        refine S.readX hS fun t A hS => ⟨hS.le, ?_⟩
        refine S.setP hS fun A hS => ⟨hS.le, ?_⟩
        refine S.setR hS fun A hS => ?_
        exact ⟨_, _, _, _, rfl, hS⟩
  · rintro _ A2 ⟨c, c', t, u, rfl, hS2⟩
    have hT := (hS2.hT _ rfl).le Offs.le
    have hU := (hS2.hU _ rfl).le Offs.le
    have hc := (hS2.hP _ rfl).1
    have hc' := (hS2.hR _ rfl).1
    have tB := tlR_VB (k := ask.Kind) (m := ask.Most) hS.hr.1
    have rl := tlR_le ask.Kind ask.Most r
    dsimp only at hT hU hc hc'
    have hrr := hS2.rr
    have hrx := hS2.rx
    generalize tlR ask.Kind ask.Most r = p at *
    generalize tlR ask.Kind ask.Most (apR r z) = p' at *
    obtain ⟨d, r'⟩ := p
    obtain ⟨d', x'⟩ := p'
    dsimp only at *
    refine ⟨!r'.f, by simp [rd, hc, GO.cells?, T_law03_told.c, hT.o], ift.of (fun hok => ?_) (fun hok => ?_)⟩
    · have hf : r'.f = true := by simpa using hok
      refine ⟨!x'.f, by simp [rd, hc', GO.cells?, T_law03_told.c, hU.o], ?_⟩
      refine ⟨fun b B => b = true, ift.of (fun h => rfl) (fun h => ?_), fun b B hb => by rw [hb]; exact k B⟩
      have hxf : x'.f = false := by simpa using h
      refine left_ok hrx ?_
      have hb := hloc.b hxf
      have : ¬ z.length ≤ x'.s.length := fun hh => by rw [hb hh] at hf; cases hf
      simp; omega
    · have hf : r'.f = false := by simpa using hok
      have hq := hloc.a hf
      injection hq with q1 q2
      subst q1; subst q2
      refine ⟨t, rds_row hc fun j v hj => by simpa using hj, u, rds_row hc' fun j v hj => by simpa using hj, ?_⟩
      refine same_ok hT hU tB fun A3 hA3 => ?_
      have hr3 := hrr.le hA3
      have hx3 := hrx.le hA3
      refine ⟨fun b B => b = false ∧ B = A3, ift.of (fun h => ?_) (fun h => ?_), ?_⟩
      · simp [apR, hf, sameV_refl] at h
      · refine left_ok hx3 (left_ok hr3 ⟨?_, rfl⟩)
        have hlen : (apR r' z).s.length = r'.s.length + z.length := by simp [apR]
        rw [hlen, htl, w_i64 (x := (r'.s.length : Int) + (z.length : Int)) (by omega) (by omega)]
        simp
      · rintro _ B ⟨rfl, rfl⟩
        refine ift_neg rfl ⟨⟨i + 1, r', ?_, by omega, hf, by omega, ?_⟩, ?_⟩
        · rw [w_i64 (by omega) (by omega)]; omega
        · refine ⟨hS2.le.trans hA3, hr3, hx3, hne, hS2.n0, hS2.hr, (fun y hy => by cases hy), (fun y hy => by cases hy), (fun p hp => by cases hp), (fun p hp => by cases hp), (fun p hp => by rcases hp with hp | hp <;> cases hp), (fun p q hp => by cases hp)⟩
        · rw [w_i64 (by omega) (by omega)]; omega
end
end Sx
set_option linter.unusedVariables false
set_option linter.unusedSimpArgs false
namespace Sx
open Go
section
variable {P : Program} {W : World}
/-- the type of questions -/
structure AskT (P : Program) (t : TypeId) : Prop where
  st : ∃ fs : Array Field, P.underlying t = some (.struct fs) ∧ (∃ f tk, fs[0]? = some f ∧ f.type = tk ∧ f.offset = 0 ∧ P.underlying tk = some (.int .u8) ∧ P.cellsOf tk = 1) ∧ (∃ f tk, fs[1]? = some f ∧ f.type = tk ∧ f.offset = 1 ∧ P.underlying tk = some (.int .i64) ∧ P.cellsOf tk = 1)
theorem asks_of {e : TypeId} {css : List (List Value)} {m : Nat} {s : Sl} (hT : AskT P e) (hl : css.length = s.len) (hr : rdsl (heapOf W) s css.flatten) (h : ∀ c ∈ css, c.length = 2 ∧ TrW P W m e c) : ∃ l : List T_law03_Ask, Asks (heapOf W) s l := by
  obtain ⟨fs, hu, ⟨f0, t0, a0, b0, c0, d0, e0⟩, ⟨f1, t1, a1, b1, c1, d1, e1⟩⟩ := hT.st
  have key : ∀ (css : List (List Value)), (∀ c ∈ css, c.length = 2 ∧ TrW P W m e c) → ∃ l : List T_law03_Ask, css.flatten = l.flatMap T_law03_Ask.c ∧ css.length = l.length := by
    intro css
    induction css with
    | nil => intro _; exact ⟨[], rfl, rfl⟩
    | cons c css ih =>
      intro hh
      obtain ⟨l, g1, g2⟩ := ih fun c hc => hh c (List.mem_cons_of_mem _ hc)
      obtain ⟨k1, k2⟩ := hh c (List.mem_cons_self ..)
      obtain ⟨_, m', rfl, k3⟩ := k2.struct hu
      have x0 := k3 0 f0 a0
      have x1 := k3 1 f1 a1
      rw [b0, c0, e0] at x0
      rw [b1, c1, e1] at x1
      obtain ⟨y0, z0, _⟩ := x0.int d0
      obtain ⟨y1, z1, _⟩ := x1.int d1
      match c, k1 with
      | [p, q], _ =>
        simp at z0 z1
        subst z0; subst z1
        exact ⟨⟨y0, y1⟩ :: l, by rw [List.flatten_cons, List.flatMap_cons, g1]; rfl, by simp [g2]⟩
  obtain ⟨l, g1, g2⟩ := key css h
  exact ⟨l, by rw [← g1]; exact hr, by omega⟩
end
end Sx
