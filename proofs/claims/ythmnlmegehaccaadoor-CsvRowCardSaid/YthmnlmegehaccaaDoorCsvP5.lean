/-
  The writers of records; how large records are; copies; the examples.
-/
import Derived.Test.YthmnlmegehaccaaDoorCsvP4
set_option linter.unusedVariables false
set_option linter.unusedSimpArgs false
set_option maxRecDepth 10000
namespace Sx
open Go Go.Proofs

theorem recT_eq (r : List Str) : recT r = (if r = [[]] then [34, 34] else []) ++ joinS r := by
  unfold recT
  split
  · rename_i h; subst h; rfl
  · rfl
theorem joinS_snoc : ∀ (r : List Str) (f : Str), joinS (r ++ [f]) = if r = [] then ownS f else joinS r ++ 44 :: ownS f
  | [], f => rfl
  | [g], f => rfl
  | g :: h :: r, f => by
    have := joinS_snoc (h :: r) f
    rw [if_neg (by simp)] at this ⊢
    simp only [List.cons_append, joinS] at this ⊢
    rw [this]; simp
theorem joinS_len (r : List Str) : (joinS r).length + 3 ≤ 3 * wR r := by
  unfold wR
  induction r with
  | nil => simp [joinS]
  | cons f r ih =>
    have h1 := ownS_len f
    cases r with
    | nil => simp [joinS]; omega
    | cons g r => simp only [joinS, List.length_append, List.length_cons, List.map_cons, List.sum_cons] at ih ⊢; omega
theorem recT_len (r : List Str) : (recT r).length + 2 ≤ 4 * wR r := by
  have := joinS_len r
  rw [recT_eq, List.length_append]
  have h1 : 1 ≤ wR r := by unfold wR; omega
  split
  · rename_i h; subst h; decide
  · simp; omega
theorem writeS_len (l : List (List Str)) : (writeS l).length ≤ 4 * wL l := by
  unfold wL
  induction l with
  | nil => simp [writeS]
  | cons r l ih =>
    have := recT_len r
    simp only [writeS, List.flatMap_cons, List.length_append, List.map_cons, List.sum_cons] at ih ⊢
    simp at ih ⊢; omega
theorem writeS_take {l : List (List Str)} {i : Nat} (h : i < l.length) : writeS (l.take (i + 1)) = writeS (l.take i) ++ (recT l[i] ++ [13, 10]) := by
  unfold writeS
  rw [List.take_add_one, List.getElem?_eq_getElem h, Option.toList_some, List.flatMap_append, List.flatMap_cons, List.flatMap_nil, List.append_nil]
theorem wL_take (l : List (List Str)) (i : Nat) : wL (l.take i) ≤ wL l := total_ok wR l i
theorem wL_take_succ {l : List (List Str)} {i : Nat} (h : i < l.length) : wL (l.take (i + 1)) = wL (l.take i) + wR l[i] := total_succ wR (List.getElem?_eq_getElem h)
theorem wR_take {r : List Str} (j : Nat) : wR (r.take j) ≤ wR r := by unfold wR; have := total_ok (fun f : Str => f.length + 1) r j; omega
theorem mem_sum_le {α : Type} (f : α → Nat) : ∀ {l : List α} {x : α}, x ∈ l → f x ≤ (l.map f).sum
  | y :: l, x, h => by
    simp only [List.map_cons, List.sum_cons]
    rcases List.mem_cons.1 h with rfl | h
    · omega
    · have := mem_sum_le f h; omega
theorem wR_mem {r : List Str} {f : Str} (h : f ∈ r) : f.length + 1 ≤ wR r := by have := mem_sum_le (fun f : Str => f.length + 1) h; unfold wR; omega
theorem wL_mem {l : List (List Str)} {r : List Str} (h : r ∈ l) : wR r ≤ wL l := mem_sum_le wR h
theorem wR_length (r : List Str) : r.length + 1 ≤ wR r := by
  unfold wR
  induction r with
  | nil => simp
  | cons f r ih => simp only [List.map_cons, List.sum_cons, List.length_cons]; omega
theorem wL_length (l : List (List Str)) : l.length ≤ wL l := by
  unfold wL
  induction l with
  | nil => simp
  | cons r l ih => simp only [List.map_cons, List.sum_cons, List.length_cons]; have : 1 ≤ wR r := by { unfold wR; omega }; omega
theorem joinS_take {r : List Str} {j : Nat} (h : j < r.length) : joinS (r.take (j + 1)) = if j = 0 then ownS r[j] else joinS (r.take j) ++ 44 :: ownS r[j] := by
  rw [List.take_add_one, List.getElem?_eq_getElem h, Option.toList_some, joinS_snoc]
  by_cases h0 : j = 0
  · subst h0; simp
  · rw [if_neg (fun e => by have h2 : (r.take j).length = 0 := by { rw [e]; rfl }; rw [List.length_take] at h2; omega), if_neg h0]
theorem anyE_take {l : List (List Str)} {i : Nat} (h : i < l.length) (hn : l[i] ≠ []) (hh : anyE (l.take i) = false) : anyE (l.take (i + 1)) = false := by
  unfold anyE at *
  rw [List.take_add_one, List.getElem?_eq_getElem h, List.any_append, hh]
  cases hx : l[i] with
  | nil => exact absurd hx hn
  | cons a b => simp
theorem anyE_of {l : List (List Str)} {i : Nat} (h : i < l.length) (hn : l[i] = []) : anyE l = true := by
  unfold anyE
  rw [List.any_eq_true]
  exact ⟨l[i], List.getElem_mem h, by rw [hn]; rfl⟩

/-- a record read out of records, in a heap that holds more -/
theorem Rows.ldAt {H H2 : Heap} {s : Sl} {l : List (List Str)} (h : Rows H s l) (hle : H.le H2) {i : Nat} {x : Int} {K : Sl → Prop} (hx : x = i) (hi : i < l.length) (k : ∀ t, rdsl H t (l[i].map sv) → t.len = l[i].length → K t) :
    ixa s x fun p => ldL H2 (p.1, p.2 + x.toNat * 1) K := by
  obtain ⟨t, ⟨ss, h1, h2⟩, h3, h4⟩ := h.get hi
  exact ix_ldL (rdsl_le hle h1) hx (by rw [h.len]; exact hi) (by simp [h2]) (k t h3 h4)

section
variable {C : Ctx} {H : Heap}

theorem csv_Write_ok {p : Sl} {l : List (List Str)} {K : Str → Int → Heap → Prop} (hp : Rows H p l) (hl : wL l ≤ 10000000) (k : K (wrS l) (wrE l) H) : c_csv_Write C p K H := by
  apply c_csv_Write.gh
  apply ad_csv_Write
  unfold sh_csv_Write
  intro b hb
  have hpl := hp.len
  have hll := wL_length l
  have hle : ∀ g : GO, H.le (H.put b g) := fun g => Heap.le_put hb
  refine ⟨fun x H' => ∃ (i : Nat) (g : GO), x = (i : Int) ∧ i ≤ l.length ∧ H' = H.put b g ∧ IsB tyB tyE H' b (writeS (l.take i)) ∧ anyE (l.take i) = false, fun x _ => l.length - x.toNat, ⟨0, _, rfl, Nat.zero_le _, rfl, IsB.new, rfl⟩, ?_⟩
  rintro x H' ⟨i, g, rfl, hi, rfl, hB, hE⟩
  have hwt := wL_take l i
  have hws := writeS_len (l.take i)
  refine ift.of (fun h => ?_) (fun h => ?_)
  · have hlt : i < l.length := by have := of_decide_eq_true h; omega
    have hwr := wL_mem (List.getElem_mem hlt)
    have hwt2 := wL_take l (i + 1)
    rw [wL_take_succ hlt] at hwt2
    refine hp.ldAt (hle g) rfl hlt fun t ht htl => ?_
    have hws2 := writeS_take hlt
    have hae := anyE_take hlt (hh := hE)
    have hao := anyE_of hlt
    generalize l[i] = r at *
    have hrl := wR_length r
    refine ift.of (fun h => ?_) (fun h => ?_)
    · have h0 : r = [] := List.length_eq_zero_iff.1 (by have : (t.len : Int) = 0 := by simpa using h
                                                        omega)
      refine ⟨H, Gh.le (hle g), ?_⟩
      unfold wrS wrE at k
      rw [hao h0] at k
      exact k
    have hr0 : r ≠ [] := fun e => by subst e; rw [htl] at h; simp at h
    refine ⟨fun _ H2 => ∃ g, H2 = H.put b g ∧ IsB tyB tyE H2 b (writeS (l.take i) ++ (if r = [[]] then [34, 34] else [])), ?_, ?_⟩
    · refine ⟨fun v H2 => H.put b g = H2 ∧ v = decide (r = [[]]), ?_, ?_⟩
      · rw [htl]
        refine ift.of (fun h => ?_) (fun h => ⟨rfl, ?_⟩)
        · have h1 : r.length = 1 := by have : (r.length : Int) = 1 := by simpa using h
                                       omega
          obtain ⟨f, rfl⟩ := List.length_eq_one_iff.1 h1
          refine ix_ldS (rdsl_le (hle g) ht) (j := 0) rfl (by rw [htl]; simp) (x := f) rfl ⟨rfl, ?_⟩
          rw [Bool.eq_iff_iff]; simp
        · rw [decide_eq_false]
          intro e; subst e; simp at h
      rintro _ _ ⟨rfl, rfl⟩
      refine ift.of (fun h => ?_) (fun h => ?_)
      · have h := of_decide_eq_true h
        refine WriteString_ok hB (by simp; omega) ?_
        rw [Heap.put_put, if_pos h]
        exact ⟨_, rfl, IsB.put⟩
      · rw [if_neg (of_decide_eq_false h), List.append_nil]
        exact ⟨_, rfl, hB⟩
    rintro _ H2 ⟨g2, rfl, hB2⟩
    refine ⟨fun x H' => ∃ (j : Nat) (g : GO), x = (j : Int) ∧ j ≤ r.length ∧ H' = H.put b g ∧ IsB tyB tyE H' b (writeS (l.take i) ++ (if r = [[]] then [34, 34] else []) ++ joinS (r.take j)), fun x _ => r.length - x.toNat, ⟨0, _, rfl, Nat.zero_le _, rfl, by simpa [joinS] using hB2⟩, ?_⟩
    rintro x H' ⟨j, g3, rfl, hj, rfl, hB3⟩
    have hjs := joinS_len (r.take j)
    have hjw := wR_take (r := r) j
    have hif : (if r = [[]] then [34, 34] else [] : Str).length ≤ 2 := by split <;> simp
    have hlen0 : (writeS (l.take i) ++ (if r = [[]] then [34, 34] else []) ++ joinS (r.take j)).length ≤ 4 * wL (l.take i) + 2 + 3 * wR r := by
      simp only [List.length_append]; omega
    rw [htl]
    refine ift.of (fun h => ?_) (fun h => ?_)
    · have hlt2 : j < r.length := by have := of_decide_eq_true h; omega
      have hfm := wR_mem (List.getElem_mem hlt2)
      have hjt := joinS_take hlt2
      have hol := ownS_len r[j]
      refine ix_ldS (rdsl_le (hle g3) ht) (j := j) rfl (by omega) (x := r[j]) (by simp [hlt2]) ?_
      generalize r[j] = f at *
      refine ⟨fun _ H2 => ∃ g, H2 = H.put b g ∧ IsB tyB tyE H2 b (writeS (l.take i) ++ (if r = [[]] then [34, 34] else []) ++ joinS (r.take j) ++ (if j = 0 then [] else [44])), ?_, ?_⟩
      · refine ift.of (fun h => ?_) (fun h => ?_)
        · have h0 : j ≠ 0 := by have := of_decide_eq_true h; omega
          refine WriteByte_ok (c := 44) hB3 (by omega) ?_
          rw [Heap.put_put, if_neg h0]
          exact ⟨_, rfl, IsB.put⟩
        · have h0 : j = 0 := by have := of_decide_eq_false h; omega
          rw [if_pos h0, List.append_nil]
          exact ⟨_, rfl, hB3⟩
      rintro _ H2 ⟨g4, rfl, hB4⟩
      refine csv_own_ok (by omega) ?_
      have hj44 : (if j = 0 then [] else [44] : Str).length ≤ 1 := by split <;> simp
      refine WriteString_ok hB4 (by simp only [List.length_append] at hlen0 ⊢; omega) ?_
      rw [Heap.put_put, w_i64 (by omega) (by omega)]
      refine ⟨⟨j + 1, _, rfl, by omega, rfl, ?_⟩, by first | omega | (dsimp only; omega)⟩
      rw [hjt]
      have e : (writeS (l.take i) ++ (if r = [[]] then [34, 34] else []) ++ joinS (r.take j) ++ (if j = 0 then [] else [44]) ++ ownS f : Str) = writeS (l.take i) ++ (if r = [[]] then [34, 34] else []) ++ (if j = 0 then ownS f else joinS (r.take j) ++ 44 :: ownS f) := by
        by_cases h0 : j = 0
        · subst h0; simp [joinS]
        · rw [if_neg h0, if_neg h0]; simp
      rw [← e]
      exact IsB.put
    · have hje : j = r.length := by have := of_decide_eq_false h; omega
      subst hje
      rw [List.take_length] at hB3 hlen0
      refine WriteString_ok hB3 (by simp only [List.length_cons, List.length_nil]; omega) ?_
      rw [Heap.put_put, w_i64 (by omega) (by omega)]
      refine ⟨⟨i + 1, _, rfl, by omega, rfl, ?_, hae hr0⟩, by first | omega | (dsimp only; omega)⟩
      rw [hws2]
      have e : (writeS (l.take i) ++ (if r = [[]] then [34, 34] else []) ++ joinS r ++ [13, 10] : Str) = writeS (l.take i) ++ (recT r ++ [13, 10]) := by rw [recT_eq]; simp
      rw [← e]
      exact IsB.put
  · have hie : i = l.length := by have := of_decide_eq_false h; omega
    subst hie
    rw [List.take_length] at hB hE hws
    refine String_ok hB (by omega) ⟨H, Gh.le ?_, ?_⟩
    · rw [Heap.put_put]; exact Heap.le_put hb
    · unfold wrS wrE at k
      rw [hE] at k; exact k

theorem ref28_Write_ok {p : Sl} {l : List (List Str)} {K : Str → Int → Heap → Prop} (hp : Rows H p l) (hl : wL l ≤ 10000000) (k : K (wrS l) (wrE l) H) : c_ref28_Write C p K H := by
  apply ad_ref28_Write
  unfold sh_ref28_Write
  have hpl := hp.len
  have hll := wL_length l
  refine ⟨fun x H' => ∃ i : Nat, x = (writeS (l.take i), (i : Int)) ∧ i ≤ l.length ∧ H = H' ∧ anyE (l.take i) = false, fun x _ => l.length - x.2.toNat, ⟨0, rfl, Nat.zero_le _, rfl, rfl⟩, ?_⟩
  rintro _ _ ⟨i, rfl, hi, rfl, hE⟩
  have hwt := wL_take l i
  have hws := writeS_len (l.take i)
  refine ift.of (fun h => ?_) (fun h => ?_)
  · have hlt : i < l.length := by have := of_decide_eq_true h; dsimp only at this; omega
    have hwr := wL_mem (List.getElem_mem hlt)
    have hwt2 := wL_take l (i + 1)
    rw [wL_take_succ hlt] at hwt2
    have ldr : ∀ {K : Sl → Prop}, (∀ t, rdsl H t (l[i].map sv) → t.len = l[i].length → K t) → ixa p (i : Int) fun p => ldL H (p.1, p.2 + (i : Int).toNat * 1) K := fun k => hp.ld rfl hlt k
    have hws2 := writeS_take hlt
    have hae := anyE_take hlt (hh := hE)
    have hao := anyE_of hlt
    generalize l[i] = r at *
    dsimp only
    refine ldr fun t ht htl => ?_
    have hrl := wR_length r
    refine ift.of (fun h => ?_) (fun h => ?_)
    · have h0 : r = [] := List.length_eq_zero_iff.1 (by have : (t.len : Int) = 0 := by simpa using h
                                                        omega)
      unfold wrS wrE at k
      rw [hao h0] at k
      exact k
    have hr0 : r ≠ [] := fun e => by subst e; rw [htl] at h; simp at h
    have hif : (if r = [[]] then [34, 34] else [] : Str).length ≤ 2 := by split <;> simp
    refine ⟨fun x H2 => H = H2 ∧ x = writeS (l.take i) ++ (if r = [[]] then [34, 34] else []), ?_, ?_⟩
    · refine ldr fun t ht htl => ?_
      refine ⟨fun v H2 => H = H2 ∧ v = decide (r = [[]]), ?_, ?_⟩
      · rw [htl]
        refine ift.of (fun h => ?_) (fun h => ⟨rfl, ?_⟩)
        · have h1 : r.length = 1 := by have : (r.length : Int) = 1 := by simpa using h
                                       omega
          obtain ⟨f, rfl⟩ := List.length_eq_one_iff.1 h1
          refine ldr fun t ht htl => ?_
          refine ix_ldS ht (j := 0) rfl (by rw [htl]; simp) (x := f) rfl ⟨rfl, ?_⟩
          rw [Bool.eq_iff_iff]; simp
        · rw [decide_eq_false]
          intro e; subst e; simp at h
      rintro _ _ ⟨rfl, rfl⟩
      refine ift.of (fun h => ?_) (fun h => ?_)
      · rw [if_pos (of_decide_eq_true h)]
        exact ⟨by unfold catOk; simp; omega, rfl, rfl⟩
      · rw [if_neg (of_decide_eq_false h), List.append_nil]
        exact ⟨rfl, rfl⟩
    rintro _ _ ⟨rfl, rfl⟩
    refine ⟨fun x H' => ∃ j : Nat, x = (writeS (l.take i) ++ (if r = [[]] then [34, 34] else []) ++ joinS (r.take j), (j : Int)) ∧ j ≤ r.length ∧ H = H', fun x _ => r.length - x.2.toNat, ⟨0, by simp [joinS], Nat.zero_le _, rfl⟩, ?_⟩
    rintro _ _ ⟨j, rfl, hj, rfl⟩
    have hjs := joinS_len (r.take j)
    have hjw := wR_take (r := r) j
    have hlen0 : (writeS (l.take i) ++ (if r = [[]] then [34, 34] else []) ++ joinS (r.take j)).length ≤ 4 * wL (l.take i) + 2 + 3 * wR r := by
      simp only [List.length_append]; omega
    refine ldr fun t ht htl => ?_
    rw [htl]
    refine ift.of (fun h => ?_) (fun h => ?_)
    · have hlt2 : j < r.length := by have := of_decide_eq_true h; dsimp only at this; omega
      have hfm := wR_mem (List.getElem_mem hlt2)
      have hjt := joinS_take hlt2
      have hol := ownS_len r[j]
      have ldf : ∀ {K : Str → Prop}, K r[j] → ∀ t, rdsl H t (r.map sv) → t.len = r.length → ixa t (j : Int) fun p => ldS H (p.1, p.2 + (j : Int).toNat * 1) K := fun k t ht htl => ix_ldS ht (j := j) rfl (by omega) (x := r[j]) (by simp [hlt2]) k
      generalize r[j] = f at *
      refine ⟨fun x H2 => H = H2 ∧ x = writeS (l.take i) ++ (if r = [[]] then [34, 34] else []) ++ joinS (r.take j) ++ (if j = 0 then [] else [44]), ?_, ?_⟩
      · refine ift.of (fun h => ?_) (fun h => ?_)
        · have h0 : j ≠ 0 := by have := of_decide_eq_true h; dsimp only at this; omega
          rw [if_neg h0]
          exact ⟨by unfold catOk; dsimp only; simp only [List.length_cons, List.length_nil]; omega, rfl, rfl⟩
        · have h0 : j = 0 := by have := of_decide_eq_false h; dsimp only at this; omega
          rw [if_pos h0, List.append_nil]
          exact ⟨rfl, rfl⟩
      rintro _ _ ⟨rfl, rfl⟩
      refine ldr fun t ht htl => ldf ?_ t ht htl
      refine ref28_Own_ok (by omega) ⟨?_, ?_⟩
      · have hj44 : (if j = 0 then [] else [44] : Str).length ≤ 1 := by split <;> simp
        unfold catOk; simp only [List.length_append] at hlen0 ⊢; omega
      dsimp only
      rw [w_i64 (by omega) (by omega)]
      refine ⟨⟨j + 1, ?_, by omega, rfl⟩, by first | omega | (dsimp only; omega)⟩
      rw [hjt]
      have e : (writeS (l.take i) ++ (if r = [[]] then [34, 34] else []) ++ joinS (r.take j) ++ (if j = 0 then [] else [44]) ++ ownS f : Str) = writeS (l.take i) ++ (if r = [[]] then [34, 34] else []) ++ (if j = 0 then ownS f else joinS (r.take j) ++ 44 :: ownS f) := by
        by_cases h0 : j = 0
        · subst h0; simp [joinS]
        · rw [if_neg h0, if_neg h0]; simp
      rw [← e]; rfl
    · have hje : j = r.length := by have := of_decide_eq_false h; dsimp only at this; omega
      subst hje
      rw [List.take_length] at hlen0 ⊢
      refine ⟨by unfold catOk; dsimp only; simp only [List.length_cons, List.length_nil]; omega, ?_⟩
      dsimp only
      rw [w_i64 (by omega) (by omega)]
      refine ⟨⟨i + 1, ?_, by omega, rfl, hae hr0⟩, by first | omega | (dsimp only; omega)⟩
      rw [hws2]
      have e : (writeS (l.take i) ++ (if r = [[]] then [34, 34] else []) ++ joinS r ++ [13, 10] : Str) = writeS (l.take i) ++ (recT r ++ [13, 10]) := by rw [recT_eq]; simp
      rw [← e]; rfl
  · have hie : i = l.length := by have := of_decide_eq_false h; dsimp only at this; omega
    subst hie
    rw [List.take_length] at hE ⊢
    unfold wrS wrE at k
    rw [hE] at k; exact k
end
end Sx
