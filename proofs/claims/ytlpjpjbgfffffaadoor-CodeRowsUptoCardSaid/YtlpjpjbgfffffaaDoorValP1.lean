/-
  Texts in values; what may be.
-/
import Derived.Test.YtlpjpjbgfffffaaDoorValU
set_option linter.unusedVariables false
set_option linter.unusedSimpArgs false
set_option maxRecDepth 10000
namespace Sx
open Go Go.Proofs

theorem u8eq (c : UInt8) (n : Nat) (hn : n < 256) : ((c.toNat : Int) == (n : Int)) = decide (c = UInt8.ofNat n) := by
  rw [Bool.eq_iff_iff]; simp only [decide_eq_true_eq, beq_iff_eq]
  constructor
  · intro h; exact UInt8.toNat_inj.1 (by rw [UInt8.toNat_ofNat']; omega)
  · rintro rfl; rw [UInt8.toNat_ofNat']; omega
theorem e48 (c : UInt8) : ((c.toNat : Int) == 48) = decide (c = 48) := u8eq c 48 (by omega)
theorem e45 (c : UInt8) : ((c.toNat : Int) == 45) = decide (c = 45) := u8eq c 45 (by omega)
theorem e46 (c : UInt8) : ((c.toNat : Int) == 46) = decide (c = 46) := u8eq c 46 (by omega)

theorem all_take {α : Type} {p : α → Bool} {s : List α} {i : Nat} (h : i < s.length) : (s.take (i + 1)).all p = ((s.take i).all p && p s[i]) := by
  rw [List.take_add_one, List.getElem?_eq_getElem h, Option.toList_some, List.all_append]; simp
theorem all_no {α : Type} {p : α → Bool} {s : List α} {x : α} (h : x ∈ s) (hp : p x = false) : s.all p = false := by
  rw [List.all_eq_false]; exact ⟨x, h, by simp [hp]⟩
theorem getE {s : Str} {i : Nat} (h : i < s.length) : s[((i : Nat) : Int).toNat]? = some s[i] := by simp [h]
theorem getL {s : Str} (h : 0 < s.length) {x : Int} (hx : x = (s.length : Int) - 1) : s[x.toNat]? = some (s.getLast (List.ne_nil_of_length_pos h)) := by
  subst hx
  have : ((s.length : Int) - 1).toNat = s.length - 1 := by omega
  rw [this, List.getElem?_eq_getElem (by omega), List.getLast_eq_getElem]

section
variable {C : Ctx} {H : Heap}

theorem letter_ok {c : UInt8} {K : Bool → Heap → Prop} (k : K (lowC c) H) : c_ref02_letter C (c.toNat : Int) K H := by
  apply ad_ref02_letter
  unfold sh_ref02_letter
  have : (decide ((c.toNat : Int) ≥ 97) && decide ((c.toNat : Int) ≤ 122)) = lowC c := by
    unfold lowC
    rw [Bool.eq_iff_iff]; simp only [Bool.and_eq_true, decide_eq_true_eq]; omega
  rw [this]; exact k

theorem ref02_Name_ok {s : Str} {K : Bool → Heap → Prop} (hs : s.length ≤ 140737488355328) (k : K (nameS s) H) : c_ref02_Name C s K H := by
  apply ad_ref02_Name
  unfold sh_ref02_Name
  refine ⟨fun b H' => H = H' ∧ b = (s.isEmpty || decide (s.length > 32) || !lowC (s.headD 0)), ?_, ?_⟩
  · refine ift.of (fun h => ⟨rfl, ?_⟩) (fun h => ?_)
    · simp only [Bool.or_eq_true, decide_eq_true_eq, beq_iff_eq] at h
      rcases h with rfl | h
      · rfl
      · have : decide (s.length > 32) = true := by rw [decide_eq_true_eq]; omega
        rw [this]; simp
    · cases s with
      | nil => simp at h
      | cons c t =>
        refine ⟨c, by omega, rfl, ?_⟩
        refine letter_ok ⟨rfl, ?_⟩
        simp only [Bool.or_eq_false_iff, decide_eq_false_iff_not] at h
        have : decide ((c :: t).length > 32) = false := by rw [decide_eq_false_iff_not]; omega
        rw [this]; rfl
  rintro b _ ⟨rfl, rfl⟩
  refine ift.of (fun h => ?_) (fun h => ?_)
  · have : nameS s = false := by
      unfold nameS
      simp only [Bool.or_eq_true, decide_eq_true_eq, Bool.not_eq_true'] at h
      rcases h with (h | h) | h
      · rw [h]; rfl
      · have : decide (s.length ≤ 32) = false := by rw [decide_eq_false_iff_not]; omega
        rw [this]; simp
      · rw [h]; simp
    rw [this] at k; exact k
  have hn : nameS s = s.all nameC := by
    unfold nameS
    simp only [Bool.or_eq_false_iff, decide_eq_false_iff_not, Bool.not_eq_false'] at h
    have : decide (s.length ≤ 32) = true := by rw [decide_eq_true_eq]; omega
    rw [h.1.1, this, h.2]; simp
  refine ⟨fun x H' => ∃ i : Nat, x = (i : Int) ∧ i ≤ s.length ∧ H = H' ∧ (s.take i).all nameC = true, fun x _ => s.length - x.toNat, ⟨0, rfl, Nat.zero_le _, rfl, rfl⟩, ?_⟩
  rintro x _ ⟨i, rfl, hi, rfl, ha⟩
  refine ift.of (fun h => ?_) (fun h => ?_)
  · have hlt : i < s.length := by have := of_decide_eq_true h; omega
    refine ⟨s[i], by omega, getE hlt, ?_⟩
    dsimp only
    have hm := List.getElem_mem hlt
    have hat := all_take (p := nameC) hlt
    generalize s[i] = c at *
    refine letter_ok ?_
    have e : ((((!lowC c) && (!((decide ((c.toNat : Int) ≥ 65)) && (decide ((c.toNat : Int) ≤ 90))))) && (!((decide ((c.toNat : Int) ≥ 48)) && (decide ((c.toNat : Int) ≤ 57))))) && ((c.toNat : Int) != 95)) = !nameC c := by
      unfold nameC
      have h1 : decide ((c.toNat : Int) ≥ 65) = decide (65 ≤ c.toNat) := by rw [decide_eq_decide]; omega
      have h2 : decide ((c.toNat : Int) ≤ 90) = decide (c.toNat ≤ 90) := by rw [decide_eq_decide]; omega
      have h3 : decide ((c.toNat : Int) ≥ 48) = decide (48 ≤ c.toNat) := by rw [decide_eq_decide]; omega
      have h4 : decide ((c.toNat : Int) ≤ 57) = decide (c.toNat ≤ 57) := by rw [decide_eq_decide]; omega
      have h5 : ((c.toNat : Int) != 95) = !decide (c.toNat = 95) := by
        rw [Bool.eq_iff_iff]; simp only [bne_iff_ne, ne_eq, Bool.not_eq_true', decide_eq_false_iff_not]; omega
      rw [h1, h2, h3, h4, h5]; simp only [Bool.not_or]
    rw [e]
    refine ift.of (fun h => ?_) (fun h => ?_)
    · rw [hn, all_no hm (by simpa using h)] at k; exact k
    · rw [w_i64 (by omega) (by omega)]
      refine ⟨⟨i + 1, by omega, by omega, rfl, ?_⟩, by first | omega | (dsimp only; omega)⟩
      rw [hat, ha]; simpa using h
  · have hie : i = s.length := by have := of_decide_eq_false h; omega
    rw [hie, List.take_length] at ha
    rw [hn, ha] at k; exact k

theorem value_name_ok {s : Str} {K : Bool → Heap → Prop} (hs : s.length ≤ 140737488355328) (k : K (nameS s) H) : c_value_name C s K H := by
  apply ad_value_name
  unfold sh_value_name
  refine ⟨fun b H' => H = H' ∧ b = (s.isEmpty || decide (s.length > 32) || decide ((s.headD 0).toNat < 97)), ?_, ?_⟩
  · refine ift.of (fun h => ⟨rfl, ?_⟩) (fun h => ?_)
    · simp only [Bool.or_eq_true, decide_eq_true_eq, beq_iff_eq] at h
      rcases h with rfl | h
      · rfl
      · have : decide (s.length > 32) = true := by rw [decide_eq_true_eq]; omega
        rw [this]; simp
    · cases s with
      | nil => simp at h
      | cons c t =>
        refine ⟨c, by omega, rfl, rfl, ?_⟩
        simp only [Bool.or_eq_false_iff, decide_eq_false_iff_not] at h
        have : decide ((c :: t).length > 32) = false := by rw [decide_eq_false_iff_not]; omega
        rw [this]
        simp only [List.isEmpty_cons, Bool.false_or, List.headD_cons]
        exact (decide_eq_decide.2 (by omega) : decide ((c.toNat : Int) < 97) = decide (c.toNat < 97))
  rintro b _ ⟨rfl, rfl⟩
  refine ⟨fun b H' => H = H' ∧ b = (s.isEmpty || decide (s.length > 32) || !lowC (s.headD 0)), ?_, ?_⟩
  · refine ift.of (fun h => ⟨rfl, ?_⟩) (fun h => ?_)
    · simp only [Bool.or_eq_true, decide_eq_true_eq] at h
      rcases h with (h | h) | h
      · rw [h]; rfl
      · have : decide (s.length > 32) = true := by rw [decide_eq_true_eq]; omega
        rw [this]; simp
      · have : lowC (s.headD 0) = false := by unfold lowC; rw [decide_eq_false (by omega)]; rfl
        rw [this]; simp
    · simp only [Bool.or_eq_false_iff, decide_eq_false_iff_not] at h
      cases s with
      | nil => simp at h
      | cons c t =>
        refine ⟨c, by omega, rfl, rfl, ?_⟩
        have : decide ((c :: t).length > 32) = false := by rw [decide_eq_false_iff_not]; omega
        rw [this]
        simp only [List.isEmpty_cons, Bool.false_or, List.headD_cons] at h ⊢
        unfold lowC
        rw [decide_eq_true (by omega : 97 ≤ c.toNat), Bool.true_and, ← decide_not, decide_eq_decide]; omega
  rintro b _ ⟨rfl, rfl⟩
  refine ift.of (fun h => ?_) (fun h => ?_)
  · have : nameS s = false := by
      unfold nameS
      simp only [Bool.or_eq_true, decide_eq_true_eq, Bool.not_eq_true'] at h
      rcases h with (h | h) | h
      · rw [h]; rfl
      · have : decide (s.length ≤ 32) = false := by rw [decide_eq_false_iff_not]; omega
        rw [this]; simp
      · rw [h]; simp
    rw [this] at k; exact k
  have hn : nameS s = s.all nameC := by
    unfold nameS
    simp only [Bool.or_eq_false_iff, decide_eq_false_iff_not, Bool.not_eq_false'] at h
    have : decide (s.length ≤ 32) = true := by rw [decide_eq_true_eq]; omega
    rw [h.1.1, this, h.2]; simp
  refine ⟨fun x H' => ∃ i : Nat, x = (i : Int) ∧ i ≤ s.length ∧ H = H' ∧ (s.take i).all nameC = true, fun x _ => s.length - x.toNat, ⟨0, rfl, Nat.zero_le _, rfl, rfl⟩, ?_⟩
  rintro x _ ⟨i, rfl, hi, rfl, ha⟩
  refine ift.of (fun h => ?_) (fun h => ?_)
  · have hlt : i < s.length := by have := of_decide_eq_true h; omega
    refine ⟨s[i], by omega, getE hlt, ?_⟩
    dsimp only
    have hm := List.getElem_mem hlt
    have hat := all_take (p := nameC) hlt
    generalize s[i] = c at *
    have e : (!(((((decide ((c.toNat : Int) ≥ 97)) && (decide ((c.toNat : Int) ≤ 122))) || ((decide ((c.toNat : Int) ≥ 65)) && (decide ((c.toNat : Int) ≤ 90)))) || ((decide ((c.toNat : Int) ≥ 48)) && (decide ((c.toNat : Int) ≤ 57)))) || ((c.toNat : Int) == 95))) = !nameC c := by
      unfold nameC lowC
      have h0 : decide ((c.toNat : Int) ≥ 97) = decide (97 ≤ c.toNat) := by rw [decide_eq_decide]; omega
      have h01 : decide ((c.toNat : Int) ≤ 122) = decide (c.toNat ≤ 122) := by rw [decide_eq_decide]; omega
      have h1 : decide ((c.toNat : Int) ≥ 65) = decide (65 ≤ c.toNat) := by rw [decide_eq_decide]; omega
      have h2 : decide ((c.toNat : Int) ≤ 90) = decide (c.toNat ≤ 90) := by rw [decide_eq_decide]; omega
      have h3 : decide ((c.toNat : Int) ≥ 48) = decide (48 ≤ c.toNat) := by rw [decide_eq_decide]; omega
      have h4 : decide ((c.toNat : Int) ≤ 57) = decide (c.toNat ≤ 57) := by rw [decide_eq_decide]; omega
      have h5 : ((c.toNat : Int) == 95) = decide (c.toNat = 95) := by
        rw [Bool.eq_iff_iff]; simp only [beq_iff_eq, decide_eq_true_eq]; omega
      rw [h0, h01, h1, h2, h3, h4, h5]
    rw [e]
    refine ift.of (fun h => ?_) (fun h => ?_)
    · rw [hn, all_no hm (by simpa using h)] at k; exact k
    · rw [w_i64 (by omega) (by omega)]
      refine ⟨⟨i + 1, by omega, by omega, rfl, ?_⟩, by first | omega | (dsimp only; omega)⟩
      rw [hat, ha]; simpa using h
  · have hie : i = s.length := by have := of_decide_eq_false h; omega
    rw [hie, List.take_length] at ha
    rw [hn, ha] at k; exact k

theorem take_no {s : Str} {i : Nat} (h : i < s.length) (h1 : (46 : UInt8) ∉ s.take i) (h2 : s[i] ≠ 46) : (46 : UInt8) ∉ s.take (i + 1) := by
  rw [List.take_add_one, List.getElem?_eq_getElem h, Option.toList_some, List.mem_append]
  rintro (hh | hh)
  · exact h1 hh
  · exact h2 (List.mem_singleton.1 hh).symm
theorem split_at {s : Str} {i : Nat} (h : i < s.length) : s = s.take i ++ s[i] :: s.drop (i + 1) := by
  rw [← List.drop_eq_getElem_cons h, List.take_append_drop]

theorem ref02_Names_ok {s : Str} {K : Bool → Heap → Prop} (hs : s.length ≤ 140737488355328) (k : K (namesS s) H) : c_ref02_Names C s K H := by
  apply ad_ref02_Names
  unfold sh_ref02_Names
  unfold namesS at k
  refine ift.of (fun h => ?_) (fun h => ?_)
  · simp only [Bool.or_eq_true, beq_iff_eq] at h
    rw [if_pos (show s = trueS ∨ s = falseS from h)] at k; exact k
  simp only [Bool.or_eq_false_iff, beq_eq_false_iff_ne, ne_eq] at h
  rw [if_neg (show ¬ (s = trueS ∨ s = falseS) from fun hh => hh.elim h.1 h.2)] at k
  refine ⟨fun x H' => ∃ i : Nat, x = (i : Int) ∧ i ≤ s.length ∧ H = H' ∧ (46 : UInt8) ∉ s.take i, fun x _ => s.length - x.toNat, ⟨0, rfl, Nat.zero_le _, rfl, by simp⟩, ?_⟩
  rintro x _ ⟨i, rfl, hi, rfl, hno⟩
  refine ift.of (fun h => ?_) (fun h => ?_)
  · have hlt : i < s.length := by have := of_decide_eq_true h; omega
    refine ⟨s[i], by omega, getE hlt, ?_⟩
    dsimp only
    rw [e46]
    refine ift.of (fun h => ?_) (fun h => ?_)
    · have hc : s[i] = 46 := of_decide_eq_true h
      have hsp := split_at hlt
      rw [hc] at hsp
      have hcut := cutD_at (s.take i) (s.drop (i + 1)) hno
      rw [← hsp] at hcut
      rw [hcut] at k
      dsimp only at k
      refine ⟨by omega, by omega, by omega, _, rfl, ?_⟩
      have e1 : (s.take ((i : Int)).toNat).drop (0 : Int).toNat = s.take i := by simp
      rw [e1]
      refine ref02_Name_ok (by simp; omega) ?_
      refine ⟨fun b H' => H = H' ∧ b = (nameS (s.take i) && nameS (s.drop (i + 1))), ?_, ?_⟩
      · refine ift.of (fun h => ?_) (fun h => ⟨rfl, by rw [h]; rfl⟩)
        rw [w_i64 (by omega) (by omega)]
        refine ⟨by omega, by omega, by omega, _, rfl, ?_⟩
        have e2 : (s.take ((s.length : Int)).toNat).drop ((i : Int) + 1).toNat = s.drop (i + 1) := by
          have : ((i : Int) + 1).toNat = i + 1 := by omega
          rw [this]; simp
        rw [e2]
        exact ref02_Name_ok (by simp; omega) ⟨rfl, by rw [h]; rfl⟩
      · rintro b _ ⟨rfl, rfl⟩
        exact k
    · have hc : s[i] ≠ 46 := of_decide_eq_false h
      rw [w_i64 (by omega) (by omega)]
      exact ⟨⟨i + 1, by omega, by omega, rfl, take_no hlt hno hc⟩, by first | omega | (dsimp only; omega)⟩
  · have hie : i = s.length := by have := of_decide_eq_false h; omega
    rw [hie, List.take_length] at hno
    rw [cutD_no s hno] at k
    exact ref02_Name_ok hs k

def numT (t : Str) : Bool := !t.isEmpty && !(decide (t.length > 1) && decide (t.head? = some 48)) && t.all digC
theorem numS_min {c : UInt8} {t : Str} : numS (45 :: c :: t) = if c = 48 then false else numT (c :: t) := by
  unfold numS numT unmin
  by_cases h : c = 48
  · subst h; simp
  · simp [h]
theorem numS_no {s : Str} (h : ¬ (s.length > 1 ∧ s.head? = some 45)) : numS s = numT s := by
  unfold numS numT unmin
  cases s with
  | nil => rfl
  | cons c t =>
    by_cases hc : c = 45
    · subst hc
      have : t = [] := by cases t with
        | nil => rfl
        | cons d u => exact absurd ⟨by simp, rfl⟩ h
      subst this; decide
    · simp only [List.head?_cons, Option.some.injEq, hc, if_false]
      by_cases h8 : c = 48
      · subst h8
        cases t with
        | nil => decide
        | cons d u => simp
      · simp [h8]

theorem ref02_Number_ok {s : Str} {K : Bool → Heap → Prop} (hs : s.length ≤ 140737488355328) (k : K (numS s) H) : c_ref02_Number C s K H := by
  apply ad_ref02_Number
  unfold sh_ref02_Number
  refine ⟨fun x H' => H = H' ∧ x.length ≤ s.length ∧ numT x = numS s, ?_, ?_⟩
  · refine ⟨fun b H' => H = H' ∧ b = decide (s.length > 1 ∧ s.head? = some 45), ?_, ?_⟩
    · refine ift.of (fun h => ?_) (fun h => ⟨rfl, ?_⟩)
      · have h1 : s.length > 1 := by have := of_decide_eq_true h; omega
        cases s with
        | nil => simp at h1
        | cons c t =>
          refine ⟨c, by omega, rfl, rfl, ?_⟩
          rw [e45, decide_eq_decide]
          simp at h1 ⊢
          exact fun _ => h1
      · have h1 := of_decide_eq_false h
        rw [eq_comm, decide_eq_false_iff_not]; omega
    rintro b _ ⟨rfl, rfl⟩
    refine ift.of (fun h => ?_) (fun h => ?_)
    · obtain ⟨h1, h2⟩ := of_decide_eq_true h
      cases s with
      | nil => simp at h1
      | cons c0 t0 =>
      obtain rfl : c0 = 45 := by simpa using h2
      cases t0 with
      | nil => simp at h1
      | cons c t =>
      refine ⟨by omega, by simp; omega, by omega, c :: t, ?_, ?_⟩
      · rw [List.take_of_length_le (by omega)]; rfl
      · refine ⟨c, by omega, rfl, ?_⟩
        dsimp only
        rw [e48]
        rw [numS_min] at k
        refine ift.of (fun h => ?_) (fun h => ?_)
        · rw [if_pos (of_decide_eq_true h)] at k; exact k
        · refine ⟨rfl, by simp, ?_⟩
          rw [numS_min, if_neg (of_decide_eq_false h)]
    · exact ⟨rfl, Nat.le_refl _, (numS_no (of_decide_eq_false h)).symm⟩
  rintro x _ ⟨rfl, hxl, hx⟩
  rw [← hx] at k
  clear hx
  refine ⟨fun b H' => H = H' ∧ b = (x.isEmpty || (decide (x.length > 1) && decide (x.head? = some 48))), ?_, ?_⟩
  · refine ift.of (fun h => ⟨rfl, ?_⟩) (fun h => ?_)
    · have : x = [] := by simpa using h
      subst this; rfl
    · refine ⟨fun b H' => H = H' ∧ b = (decide (x.length > 1) && decide (x.head? = some 48)), ?_, ?_⟩
      · refine ift.of (fun h => ?_) (fun h => ⟨rfl, ?_⟩)
        · have h1 : x.length > 1 := by have := of_decide_eq_true h; omega
          rw [decide_eq_true h1]
          cases x with
          | nil => simp at h1
          | cons c t => exact ⟨c, by omega, rfl, rfl, by rw [e48]; simp⟩
        · have h1 := of_decide_eq_false h
          rw [decide_eq_false (by omega)]; rfl
      · rintro b _ ⟨rfl, rfl⟩
        have : x.isEmpty = false := by cases x with
          | nil => simp at h
          | cons c t => rfl
        rw [this]; exact ⟨rfl, rfl⟩
  rintro b _ ⟨rfl, rfl⟩
  have hnt : numT x = (!(x.isEmpty || (decide (x.length > 1) && decide (x.head? = some 48))) && x.all digC) := by unfold numT; simp [Bool.not_or]
  refine ift.of (fun h => ?_) (fun h => ?_)
  · rw [hnt, h] at k; exact k
  rw [hnt, h, Bool.not_false, Bool.true_and] at k
  refine ⟨fun y H' => ∃ i : Nat, y = (i : Int) ∧ i ≤ x.length ∧ H = H' ∧ (x.take i).all digC = true, fun y _ => x.length - y.toNat, ⟨0, rfl, Nat.zero_le _, rfl, rfl⟩, ?_⟩
  rintro y _ ⟨i, rfl, hi, rfl, ha⟩
  refine ift.of (fun h => ?_) (fun h => ?_)
  · have hlt : i < x.length := by have := of_decide_eq_true h; omega
    have hm := List.getElem_mem hlt
    have hat := all_take (p := digC) hlt
    have hge := getE hlt
    generalize x[i] = c at *
    refine ⟨c, by omega, hge, ?_⟩
    refine ⟨fun b H' => H = H' ∧ b = !digC c, ?_, ?_⟩
    · refine ift.of (fun h => ⟨rfl, ?_⟩) (fun h => ?_)
      · have h1 := of_decide_eq_true h
        unfold digC; rw [decide_eq_false (by omega)]; rfl
      · have h1 := of_decide_eq_false h
        refine ⟨c, by omega, hge, rfl, ?_⟩
        unfold digC; rw [decide_eq_true (by omega : 48 ≤ c.toNat), Bool.true_and, ← decide_not, decide_eq_decide]; omega
    rintro b _ ⟨rfl, rfl⟩
    refine ift.of (fun h => ?_) (fun h => ?_)
    · rw [all_no hm (by simpa using h)] at k; exact k
    · rw [w_i64 (by omega) (by omega)]
      refine ⟨⟨i + 1, by omega, by omega, rfl, ?_⟩, by first | omega | (dsimp only; omega)⟩
      rw [hat, ha]; simpa using h
  · have hie : i = x.length := by have := of_decide_eq_false h; omega
    rw [hie, List.take_length] at ha
    rw [ha] at k; exact k

theorem ref02_Digits_ok {s : Str} {K : Int → Heap → Prop} (hs : s.length ≤ 140737488355328) (hn : numS s = true) (k : K (digits s) H) : c_ref02_Digits C s K H := by
  apply ad_ref02_Digits
  unfold sh_ref02_Digits
  cases s with
  | nil => simp [numS, unmin] at hn
  | cons c t =>
    refine ⟨c, by omega, rfl, ?_⟩
    dsimp only
    rw [e45]
    unfold digits unmin at k
    refine ift.of (fun h => ?_) (fun h => ?_)
    · have hc : c = 45 := of_decide_eq_true h
      rw [if_pos (by rw [hc]; rfl)] at k
      simp at hs
      rw [w_i64 (by simp only [List.length_cons]; omega) (by simp only [List.length_cons]; omega)]
      simpa using k
    · rw [if_neg (by simpa using of_decide_eq_false h)] at k; exact k
end
end Sx
