/-
  Texts of this family, one behind the other: ValC1, ValO1, SortP, SortQ, ValM, ValN1, SortR, SortD, ValS, ShowQ, BldB, ShowP, AwkP, Awk, ValH, LawTexts.
-/
import Derived.Test.YthfggbmlmpegaaaDoorA4
import Derived.Lib.ItoaNum
import Derived.Lib.ItoaLen
noncomputable section
set_option linter.unusedVariables false
set_option linter.unusedSimpArgs false
namespace Sx
open Go Go.Proofs
theorem vslt_cons (a b : UInt8) (s t : Str) : slt (a :: s) (b :: t) = (decide (a < b) || (decide (a = b) && slt s t)) := by
  simp only [slt, Op.bytesLess]
  by_cases h : a < b
  · simp [h]
  · by_cases h2 : a = b
    · subst h2; simp [h]
    · simp [h, h2]
theorem sgn_self (a : Int) : sgn a a = 0 := by unfold sgn; rw [if_neg (by omega), if_neg (by omega)]
theorem sgn_rng (a b : Int) : -1 ≤ sgn a b ∧ sgn a b ≤ 1 := by unfold sgn; (split; · omega); (split <;> omega)
theorem sgn_neg {a b : Int} : sgn a b < 0 ↔ a < b := by unfold sgn; (split; · omega); (split <;> omega)
theorem sgn_zero {a b : Int} : sgn a b = 0 ↔ a = b := by unfold sgn; (split; · omega); (split <;> omega)
theorem vslt : ∀ s t : Str, slt s t = decide (vcmpS s t < 0) ∧ (vcmpS s t = 0 ↔ s = t) ∧ -1 ≤ vcmpS s t ∧ vcmpS s t ≤ 1
  | [], [] => ⟨rfl, by simp [vcmpS], by simp [vcmpS], by simp [vcmpS]⟩
  | [], b :: t => ⟨rfl, by simp [vcmpS], by simp [vcmpS], by simp [vcmpS]⟩
  | a :: s, [] => ⟨rfl, by simp [vcmpS], by simp [vcmpS], by simp [vcmpS]⟩
  | a :: s, b :: t => by
    obtain ⟨h1, h2, h3, h4⟩ := vslt s t
    rw [vslt_cons, h1]
    simp only [vcmpS]
    by_cases he : a = b
    · subst he
      have : ¬ a < a := fun h => Nat.lt_irrefl _ h
      refine ⟨by simp [this], ?_, by rw [if_pos rfl]; exact h3, by rw [if_pos rfl]; exact h4⟩
      rw [if_pos rfl, h2]; simp
    · have hne : ¬ (a.toNat : Int) = b.toNat := fun h => he (UInt8.toNat_inj.1 (by omega))
      have hz : ¬ sgn a.toNat b.toNat = 0 := fun h => hne (sgn_zero.1 h)
      refine ⟨?_, ?_, ?_⟩
      · simp only [he, if_false, decide_false, Bool.false_and, Bool.or_false]
        rw [decide_eq_decide, sgn_neg, UInt8.lt_iff_toNat_lt]; omega
      · simp only [he, if_false, List.cons.injEq, false_and]; exact ⟨fun h => hz h, fun h => h.elim⟩
      · rw [if_neg he]; exact sgn_rng _ _

section
variable {C : Ctx} {H : Heap}
theorem pcmp8_ok {a b : Int} {K : Int → Heap → Prop} (k : K (sgn a b) H) : c_cmp_Compare_uint8 C a b K H := by
  have nan : ∀ {a : Int} {K : Bool → Heap → Prop}, K false H → c_cmp_isNaN_uint8 C a K H := fun {a K} k => by
    apply ad_cmp_isNaN_uint8
    unfold sh_cmp_isNaN_uint8
    simpa using k
  apply ad_cmp_Compare_uint8
  unfold sh_cmp_Compare_uint8
  refine nan (nan (ift_neg rfl (ift_neg rfl ?_)))
  unfold sgn at k
  refine ift.of (fun h => ?_) (fun h => ?_)
  · rw [if_pos (of_decide_eq_true h)] at k; exact k
  rw [if_neg (of_decide_eq_false h)] at k
  refine ift.of (fun h => ?_) (fun h => ?_)
  · rw [if_pos (show b < a from of_decide_eq_true h)] at k; exact k
  · rw [if_neg (show ¬ b < a from of_decide_eq_false h)] at k; exact k
theorem pcmp64_ok {a b : Int} {K : Int → Heap → Prop} (k : K (sgn a b) H) : c_cmp_Compare_int64 C a b K H := by
  have nan : ∀ {a : Int} {K : Bool → Heap → Prop}, K false H → c_cmp_isNaN_int64 C a K H := fun {a K} k => by
    apply ad_cmp_isNaN_int64
    unfold sh_cmp_isNaN_int64
    simpa using k
  apply ad_cmp_Compare_int64
  unfold sh_cmp_Compare_int64
  refine nan (nan (ift_neg rfl (ift_neg rfl ?_)))
  unfold sgn at k
  refine ift.of (fun h => ?_) (fun h => ?_)
  · rw [if_pos (of_decide_eq_true h)] at k; exact k
  rw [if_neg (of_decide_eq_false h)] at k
  refine ift.of (fun h => ?_) (fun h => ?_)
  · rw [if_pos (show b < a from of_decide_eq_true h)] at k; exact k
  · rw [if_neg (show ¬ b < a from of_decide_eq_false h)] at k; exact k
theorem pcmpI_ok {a b : Int} {K : Int → Heap → Prop} (k : K (sgn a b) H) : c_cmp_Compare_int C a b K H := by
  have nan : ∀ {a : Int} {K : Bool → Heap → Prop}, K false H → c_cmp_isNaN_int C a K H := fun {a K} k => by
    apply ad_cmp_isNaN_int
    unfold sh_cmp_isNaN_int
    simpa using k
  apply ad_cmp_Compare_int
  unfold sh_cmp_Compare_int
  refine nan (nan (ift_neg rfl (ift_neg rfl ?_)))
  unfold sgn at k
  refine ift.of (fun h => ?_) (fun h => ?_)
  · rw [if_pos (of_decide_eq_true h)] at k; exact k
  rw [if_neg (of_decide_eq_false h)] at k
  refine ift.of (fun h => ?_) (fun h => ?_)
  · rw [if_pos (show b < a from of_decide_eq_true h)] at k; exact k
  · rw [if_neg (show ¬ b < a from of_decide_eq_false h)] at k; exact k
theorem pcmpS_ok {a b : Str} {K : Int → Heap → Prop} (k : K (vcmpS a b) H) : c_cmp_Compare_string C a b K H := by
  have nan : ∀ {a : Str} {K : Bool → Heap → Prop}, K false H → c_cmp_isNaN_string C a K H := fun {a K} k => by
    apply ad_cmp_isNaN_string
    unfold sh_cmp_isNaN_string
    simpa using k
  apply ad_cmp_Compare_string
  unfold sh_cmp_Compare_string
  obtain ⟨h1, h2, h3, h4⟩ := vslt a b
  refine nan (nan (ift_neg rfl (ift_neg rfl ?_)))
  refine ift.of (fun h => ?_) (fun h => ?_)
  · rw [h1] at h
    have := of_decide_eq_true h
    rw [show vcmpS a b = -1 by omega] at k; exact k
  have hn : ¬ vcmpS a b < 0 := by rw [h1] at h; exact of_decide_eq_false h
  rw [h, Bool.false_or]
  refine ift.of (fun h => ?_) (fun h => ?_)
  · have : ¬ a = b := by simpa using h
    have : ¬ vcmpS a b = 0 := fun e => this (h2.1 e)
    rw [show vcmpS a b = 1 by omega] at k; exact k
  · have : a = b := by simpa using h
    rw [h2.2 this] at k; exact k
theorem por_ok {b : Nat} {m : Bool} {l : List Int} {n : Nat} {K : Int → Heap → Prop} (hb : H b = some (m, .row (l.map fun x => Value.int .i64 x))) (hn : n = l.length) (hl : l.length ≤ 1000) (k : K ((l.find? fun x => x != 0).getD 0) H) : c_cmp_Or_int C (Sl.of (some (b, 0)) n n) K H := by
  subst hn
  apply ad_cmp_Or_int
  unfold sh_cmp_Or_int
  refine ⟨fun x H' => ∃ i : Nat, x = (i : Int) ∧ i ≤ l.length ∧ H = H' ∧ (l.find? fun x => x != 0) = ((l.drop i).find? fun x => x != 0), fun x _ => l.length - x.toNat, ⟨0, rfl, Nat.zero_le _, rfl, rfl⟩, ?_⟩
  rintro x _ ⟨i, rfl, hi, rfl, hc⟩
  refine ift.of (fun h => ?_) (fun h => ?_)
  · have h1 : i < l.length := by have := of_decide_eq_true h; simp only [Sl.of] at this; omega
    refine ⟨(b, 0), rfl, rfl, by omega, of_decide_eq_true h, l[i], ?_, ?_⟩
    · simp [rd, hb, GO.cells?, h1]
    rw [List.drop_eq_getElem_cons h1, List.find?_cons] at hc
    refine ift.of (fun h => ?_) (fun h => ?_)
    · rw [h] at hc
      rw [hc] at k; exact k
    · rw [h] at hc
      rw [w_i64 (by omega) (by omega)]
      exact ⟨⟨i + 1, by omega, by omega, rfl, hc⟩, by first | omega | (dsimp only; omega)⟩
  · have : i = l.length := by have := of_decide_eq_false h; simp only [Sl.of] at this; omega
    subst this
    rw [hc, List.drop_length] at k; exact k
theorem pHasPrefix_ok {s p : Str} {K : Bool → Heap → Prop} (k : K (p.isPrefixOf s) H) : c_strings_HasPrefix C s p K H := by
  apply ad_strings_HasPrefix
  unfold sh_strings_HasPrefix
  exact hasPrefix_ok k
theorem pre45 (s : Str) : ([45] : Str).isPrefixOf s = isMin s := by
  cases s with
  | nil => rfl
  | cons c s =>
    simp only [List.isPrefixOf, isMin, List.head?_cons, Option.some.injEq, Bool.and_true]
    by_cases h : c = 45
    · subst h; rfl
    · have h2 : ¬ (45 : UInt8) = c := fun e => h e.symm
      simp [h, h2]
theorem or2 (a b : Int) : (([a, b].find? fun x => x != 0).getD 0) = if a ≠ 0 then a else b := by
  by_cases h : a = 0
  · subst h
    by_cases hb : b = 0
    · subst hb; rfl
    · simp [hb]
  · simp [h]
theorem or3 (a b c : Int) : (([a, b, c].find? fun x => x != 0).getD 0) = if a ≠ 0 then a else if b ≠ 0 then b else c := by
  by_cases h : a = 0
  · subst h
    have := or2 b c
    simpa using this
  · simp [h]
theorem pbigs0_ok {a b : Str} {K : Int → Heap → Prop} (ma : isMin a = false) (mb : isMin b = false) (k : K (cmpD a b) H) : c_value_bigs C a b K H := by
  apply c_value_bigs.gh
  apply ad_value_bigs
  unfold sh_value_bigs
  refine pHasPrefix_ok (pHasPrefix_ok ?_)
  rw [pre45, pre45, ma, mb]
  refine ift_neg rfl (ift_neg rfl (ift_neg rfl ?_))
  refine pcmpI_ok (pcmpS_ok ?_)
  intro c hc
  refine por_ok (l := [sgn a.length b.length, vcmpS a b]) (Heap.put_same ..) rfl (by simp) ?_
  refine ⟨H, Gh.le (Heap.le_put hc), ?_⟩
  rw [or2]
  unfold cmpD at k
  by_cases h : a.length = b.length
  · rw [if_pos h] at k
    rw [if_neg (by rw [h, sgn_self]; simp)]; exact k
  · rw [if_neg h] at k
    rw [if_pos (fun e => h (by have := sgn_zero.1 e; omega))]; exact k
theorem pbigs_ok {a b : Str} {K : Int → Heap → Prop} (na : numS a = true) (nb : numS b = true) (k : K (cmpB a b) H) : c_value_bigs C a b K H := by
  by_cases hn : isMin a = false ∧ isMin b = false
  · rw [cmpB_no hn.1 hn.2] at k; exact pbigs0_ok hn.1 hn.2 k
  apply ad_value_bigs
  unfold sh_value_bigs
  refine pHasPrefix_ok (pHasPrefix_ok ?_)
  rw [pre45, pre45]
  unfold cmpB at k
  refine ift.of (fun h => ?_) (fun h => ?_)
  · obtain ⟨h1, h2⟩ := Bool.and_eq_true_iff.1 h
    rw [if_pos h1, if_pos h2] at k
    have la : 1 ≤ a.length := by have := numS_ne na; cases a <;> simp_all
    have lb : 1 ≤ b.length := by have := numS_ne nb; cases b <;> simp_all
    refine ⟨H, Heap.le.refl _, by omega, by omega, by omega, _, rfl, by omega, by omega, by omega, _, rfl, ?_⟩
    have ea : (a.take (a.length : Int).toNat).drop (1 : Int).toNat = a.tail := by simp
    have eb : (b.take (b.length : Int).toNat).drop (1 : Int).toNat = b.tail := by simp
    rw [ea, eb]
    exact pbigs0_ok (numS_isMin nb h2).1 (numS_isMin na h1).1 ⟨Heap.le.refl _, k⟩
  refine ift.of (fun h1 => ?_) (fun h1 => ?_)
  · rw [if_pos h1] at k
    have h2 : isMin b = false := by rw [h1] at h; simpa using h
    rw [if_neg (by rw [h2]; simp)] at k; exact k
  rw [if_neg (by rw [h1]; simp)] at k
  refine ift.of (fun h2 => ?_) (fun h2 => ?_)
  · rw [if_pos h2] at k; exact k
  · exact absurd ⟨h1, h2⟩ hn

theorem plast_ok {a b : Bool} {K : Int → Heap → Prop} (k : K (lastB a b) H) : c_value_last C a b K H := by
  apply ad_value_last
  unfold sh_value_last
  unfold lastB at k
  refine ift.of (fun h => ?_) (fun h => ?_)
  · rw [if_pos (by simpa using h)] at k; exact k
  rw [if_neg (by simpa using h)] at k
  refine ift.of (fun h => ?_) (fun h => ?_)
  · rw [if_pos h] at k; exact k
  · rw [if_neg (by rw [h]; decide)] at k; exact k

theorem may1_ok {v : V} {x : TV} {K : Bool → Heap → Prop} (hv : VIs H v x) (hB : VB v) (k : K (!mayV v) H) : c_value_may_1 C x K H := by
  apply c_value_may_1.gh
  apply ad_value_may_1
  unfold sh_value_may_1
  intro c hc
  have hle := Heap.le_put hc (g := .row (T_api_Value.c x)) (m := true)
  refine bxV (Heap.put_same ..) ?_
  refine value_Check_ok (hv.le hle) hB ⟨H, Gh.le hle, ?_⟩
  rw [bne, mayV_dec]; exact k
/-- a function that is asked of each value -/
theorem indexF_ok {l : List V} {s : Sl} {f : Value} {φ : V → Bool} {K : Int → Heap → Prop} (hs : VRow H s l) (hl : l.length ≤ 140737488355328)
    (hf : ∀ v x, v ∈ l → VIs H v x → ∀ Φ : Value → Heap → Prop, Φ (.bool (φ v)) H → callU Tryd.prog C f [.agg (T_api_Value.c x).toArray] H Φ)
    (k : ∀ i : Int, (0 ≤ i ↔ l.any φ = true) → K i H) : c_slices_IndexFunc_api_Value_api_Value C s f K H := by
  apply ad_slices_IndexFunc_api_Value_api_Value
  unfold sh_slices_IndexFunc_api_Value_api_Value
  rw [hs.len]
  refine ⟨fun x H' => ∃ i : Nat, x = (i : Int) ∧ i ≤ l.length ∧ H = H' ∧ (l.take i).any φ = false, fun x _ => l.length - x.toNat, ⟨0, rfl, Nat.zero_le _, rfl, rfl⟩, ?_⟩
  rintro x _ ⟨i, rfl, hi, rfl, ha⟩
  refine ift.of (fun h => ?_) (fun h => ?_)
  · have hlt : i < l.length := by have := of_decide_eq_true h; omega
    have hm := List.getElem_mem hlt
    refine hs.ld (Heap.le.refl _) rfl hlt fun y hy => ?_
    refine hf _ y hm hy _ ⟨_, rfl, ?_⟩
    refine ift.of (fun h => ?_) (fun h => ?_)
    · exact k _ ⟨fun _ => List.any_eq_true.2 ⟨_, hm, h⟩, fun _ => by omega⟩
    · rw [w_i64 (by omega) (by omega)]
      refine ⟨⟨i + 1, by omega, by omega, rfl, ?_⟩, by first | omega | (dsimp only; omega)⟩
      rw [List.take_add_one, List.getElem?_eq_getElem hlt, Option.toList_some, List.any_append, ha]; simp [h]
  · have hie : i = l.length := by have := of_decide_eq_false h; omega
    rw [hie, List.take_length] at ha
    exact k _ ⟨fun h => by omega, fun h => by rw [h] at ha; cases ha⟩
theorem containsF_ok {l : List V} {s : Sl} {f : Value} {φ : V → Bool} {K : Bool → Heap → Prop} (hs : VRow H s l) (hl : l.length ≤ 140737488355328)
    (hf : ∀ v x, v ∈ l → VIs H v x → ∀ Φ : Value → Heap → Prop, Φ (.bool (φ v)) H → callU Tryd.prog C f [.agg (T_api_Value.c x).toArray] H Φ)
    (k : K (l.any φ) H) : c_slices_ContainsFunc_api_Value_api_Value C s f K H := by
  apply ad_slices_ContainsFunc_api_Value_api_Value
  unfold sh_slices_ContainsFunc_api_Value_api_Value
  refine indexF_ok hs hl hf fun i hi => ?_
  have : decide (i ≥ 0) = l.any φ := by
    rw [Bool.eq_iff_iff, decide_eq_true_eq]; exact hi
  rw [this]; exact k
theorem pmay_ok {l : List V} {s : Sl} {K : Bool → Heap → Prop} (hs : VRow H s l) (hl : l.length ≤ 140737488355328) (hB : VBs l) (k : K (mayR l) H) : c_value_may C s K H := by
  apply ad_value_may
  unfold sh_value_may
  refine containsF_ok (φ := fun v => !mayV v) hs hl (fun v x hv hx Φ hΦ => ⟨_, [], [], rfl, ok_value_may_1, ?_⟩) ?_
  · have h : c_value_may_1 C x (fun r H2 => Φ (.bool r) H2) H := may1_ok hx (hB.mem hv) hΦ
    exact Spec.mono h fun v H2 ⟨r, hv, h⟩ => by rw [hv]; exact h
  · have : (!(l.any fun v => !mayV v)) = mayR l := by unfold mayR; rw [List.not_any_eq_all_not]; simp
    rw [this]; exact k

/-- rows, value by value -/
theorem compareF_ok {l m : List V} {s t : Sl} {f : Value} {K : Int → Heap → Prop} (hs : VRow H s l) (ht : VRow H t m) (hl : l.length ≤ 140737488355328) (hm : m.length ≤ 140737488355328)
    (hf : ∀ v x w y, v ∈ l → w ∈ m → ∀ A : Heap, H.le A → VIs A v x → VIs A w y → ∀ Φ : Value → Heap → Prop, Φ (.int .i64 (cmpV v w)) A → callU Tryd.prog C f [.agg (T_api_Value.c x).toArray, .agg (T_api_Value.c y).toArray] A Φ)
    (k : K (cmpVs l m) H) : c_slices_CompareFunc_api_Value_api_Value_api_Value_api_Value C s t f K H := by
  apply c_slices_CompareFunc_api_Value_api_Value_api_Value_api_Value.gh
  apply ad_slices_CompareFunc_api_Value_api_Value_api_Value_api_Value
  unfold sh_slices_CompareFunc_api_Value_api_Value_api_Value_api_Value
  rw [hs.len, ht.len]
  refine ⟨fun x A => ∃ i : Nat, x = (i : Int) ∧ i ≤ l.length ∧ i ≤ m.length ∧ H.le A ∧ cmpVs l m = cmpVs (l.drop i) (m.drop i), fun x _ => l.length - x.toNat, ⟨0, rfl, Nat.zero_le _, Nat.zero_le _, Heap.le.refl _, rfl⟩, ?_⟩
  rintro x A ⟨i, rfl, hi, hi2, hA, hc⟩
  refine ift.of (fun h => ?_) (fun h => ?_)
  · have h1 : i < l.length := by have := of_decide_eq_true h; omega
    have m1 := List.getElem_mem h1
    refine hs.ld hA rfl h1 fun y hy => ?_
    intro b1 n1
    have hle1 := Heap.le_put n1 (g := .row (T_api_Value.c T_api_Value.zero)) (m := true)
    refine ⟨_, Heap.put_same .., by simp [T_api_Value.c], ?_⟩
    have e1 : ∀ z : TV, splice (T_api_Value.c T_api_Value.zero) 0 (T_api_Value.c z) = T_api_Value.c z := fun z => by simp [splice, T_api_Value.c]
    dsimp only
    rw [e1, Heap.put_put]
    have hle1 := Heap.le_put n1 (g := .row (T_api_Value.c y)) (m := true)
    refine ift.of (fun h => ?_) (fun h => ?_)
    · have h2 : i = m.length := by have := of_decide_eq_true h; omega
      refine ⟨H, Gh.le (hA.trans hle1), ?_⟩
      subst h2
      rw [hc, List.drop_length, List.drop_eq_getElem_cons h1] at k; exact k
    · have h2 : i < m.length := by have := of_decide_eq_false h; omega
      have m2 := List.getElem_mem h2
      rw [List.drop_eq_getElem_cons h1, List.drop_eq_getElem_cons h2] at hc
      refine ht.ld (hA.trans hle1) rfl h2 fun z hz => ?_
      intro b2 n2
      refine ⟨_, Heap.put_same .., by simp [T_api_Value.c], ?_⟩
      dsimp only
      rw [e1, Heap.put_put]
      have hle2 := Heap.le_put n2 (g := .row (T_api_Value.c z)) (m := true)
      have hne : b1 ≠ b2 := fun e => by rw [← e, Heap.put_same] at n2; cases n2
      refine bxV (m := true) (by rw [Heap.put_ne _ _ _ hne, Heap.put_same]) (bxV (m := true) (Heap.put_same ..) ?_)
      have hle := (hA.trans hle1).trans hle2
      refine hf _ y _ z m1 m2 _ hle (hy.le hle) (hz.le hle) _ ⟨_, rfl, ?_⟩
      simp only [cmpVs] at hc
      refine ift.of (fun h => ?_) (fun h => ?_)
      · rw [if_pos (by simpa using h)] at hc
        rw [hc] at k; exact ⟨H, Gh.le hle, k⟩
      · rw [if_neg (by simpa using h)] at hc
        rw [w_i64 (by omega) (by omega)]
        exact ⟨⟨i + 1, by omega, by omega, by omega, hle, hc⟩, by first | omega | (dsimp only; omega)⟩
  · have h1 : i = l.length := by have := of_decide_eq_false h; omega
    subst h1
    rw [hc, List.drop_length, cmpVs_nil_l, List.length_drop] at k
    refine ift.of (fun h => ?_) (fun h => ?_)
    · have := of_decide_eq_true h
      rw [show sgn 0 ((m.length - l.length : Nat) : Int) = -1 by unfold sgn; rw [if_pos (by omega)]] at k
      exact ⟨H, Gh.le hA, k⟩
    · have := of_decide_eq_false h
      rw [show sgn 0 ((m.length - l.length : Nat) : Int) = 0 by rw [sgn_zero]; omega] at k
      exact ⟨H, Gh.le hA, k⟩
theorem prows_gen {l m : List V} {s t : Sl} {K : Int → Heap → Prop} (hs : VRow H s l) (ht : VRow H t m) (hl : l.length ≤ 140737488355328) (hm : m.length ≤ 140737488355328)
    (ih : ∀ v ∈ l, ∀ w ∈ m, ∀ {A : Heap} {x y : TV} {K : Int → Heap → Prop}, VIs A v x → VIs A w y → K (cmpV v w) A → c_value_item_cmp C x y K A) (k : K (cmpVs l m) H) : c_value_rows C s t K H := by
  apply ad_value_rows
  unfold sh_value_rows
  refine compareF_ok hs ht hl hm (fun v x w y hv hw A hA hx hy Φ hΦ => ⟨_, [], [], rfl, ok_value_rows_1, ?_⟩) k
  have h : c_value_rows_1 C x y (fun r H2 => Φ (.int .i64 r) H2) A := by
    apply c_value_rows_1.gh
    apply ad_value_rows_1
    unfold sh_value_rows_1
    intro b1 n1 b3 n3
    have hb3 : ((A.put b1 (.row (T_api_Value.c x))).put b3 (.row (T_api_Value.c y))) b3 = some (true, .row (T_api_Value.c y)) := Heap.put_same ..
    have hne : b1 ≠ b3 := fun e => by rw [e, Heap.put_same] at n3; cases n3
    have hb1 : ((A.put b1 (.row (T_api_Value.c x))).put b3 (.row (T_api_Value.c y))) b1 = some (true, .row (T_api_Value.c x)) := by rw [Heap.put_ne _ _ _ hne, Heap.put_same]
    have hle := (Heap.le_put n1 (g := .row (T_api_Value.c x)) (m := true)).trans (Heap.le_put n3 (g := .row (T_api_Value.c y)) (m := true))
    generalize (A.put b1 (.row (T_api_Value.c x))).put b3 (.row (T_api_Value.c y)) = B at *
    refine bxV hb1 (bxV hb3 ?_)
    exact ih v hv w hw (hx.le hle) (hy.le hle) ⟨A, Gh.le hle, hΦ⟩
  exact Spec.mono h fun v H2 ⟨r, hv, h⟩ => by rw [hv]; exact h

theorem okN_kinds {k n : Int} {s : Str} {m : Nat} (h : okN k n s m = true) : (k = 1 ∧ s = [] ∧ m = 0) ∨ (k = 2 ∧ s = [] ∧ m = 0) ∨ (k = 3 ∧ n = 0 ∧ m = 0) ∨ (k = 4 ∧ n = 0 ∧ m = 0) ∨ (k = 5 ∧ n = 0 ∧ s = []) ∨ (k = 6 ∧ n = 0) := by
  unfold okN at h
  split at h
  · rename_i e
    simp only [Bool.and_eq_true, decide_eq_true_eq, List.isEmpty_iff] at h
    exact .inl ⟨e, h.1.2, h.2⟩
  split at h
  · rename_i e
    simp only [Bool.and_eq_true, decide_eq_true_eq, List.isEmpty_iff] at h
    exact .inr (.inl ⟨e, h.1, h.2⟩)
  split at h
  · rename_i e
    simp only [Bool.and_eq_true, decide_eq_true_eq, beq_iff_eq] at h
    exact .inr (.inr (.inl ⟨e, h.1.2, h.2⟩))
  split at h
  · rename_i e
    simp only [Bool.and_eq_true, decide_eq_true_eq, beq_iff_eq] at h
    exact .inr (.inr (.inr (.inl ⟨e, h.1, h.2⟩)))
  split at h
  · rename_i e
    simp only [Bool.and_eq_true, decide_eq_true_eq, beq_iff_eq, List.isEmpty_iff] at h
    exact .inr (.inr (.inr (.inr (.inl ⟨e, h.1.1, h.1.2⟩))))
  split at h
  · rename_i e
    simp only [Bool.and_eq_true, decide_eq_true_eq, beq_iff_eq] at h
    exact .inr (.inr (.inr (.inr (.inr ⟨e, h.1⟩))))
  · cases h

theorem pcmp_ok {v w : V} {x y : TV} {H : Heap} {K : Int → Heap → Prop} (hv : VIs H v x) (hw : VIs H w y) (hB : VB v) (hB2 : VB w) (hF : formV v = true) (hF2 : formV w = true) (k : K (cmpV v w) H) : c_value_item_cmp C x y K H := by
  refine V.rec_ (P := fun v => ∀ {w x y H} {K : Int → Heap → Prop}, VIs H v x → VIs H w y → VB v → VB w → formV v = true → formV w = true → K (cmpV v w) H → c_value_item_cmp C x y K H) (fun v ih => ?_) v hv hw hB hB2 hF hF2 k
  clear hv hw hB hB2 hF hF2 k
  intro w x y H K hv hw hB hB2 hF hF2 k
  apply c_value_item_cmp.gh
  apply ad_value_item_cmp
  unfold sh_value_item_cmp
  intro b1 n1 b3 n3
  have hb3 : ((H.put b1 (.row (T_api_Value.c x))).put b3 (.row (T_api_Value.c y))) b3 = some (true, .row (T_api_Value.c y)) := Heap.put_same ..
  have hne : b1 ≠ b3 := fun e => by rw [e, Heap.put_same] at n3; cases n3
  have hb1 : ((H.put b1 (.row (T_api_Value.c x))).put b3 (.row (T_api_Value.c y))) b1 = some (true, .row (T_api_Value.c x)) := by rw [Heap.put_ne _ _ _ hne, Heap.put_same]
  have hle := (Heap.le_put n1 (g := .row (T_api_Value.c x)) (m := true)).trans (Heap.le_put n3 (g := .row (T_api_Value.c y)) (m := true))
  generalize (H.put b1 (.row (T_api_Value.c x))).put b3 (.row (T_api_Value.c y)) = H1 at *
  have k' : ∃ H0, Gh C H1 H0 ∧ K (cmpV v w) H0 := ⟨H, Gh.le hle, k⟩
  rw [formV_eq, Bool.and_eq_true] at hF hF2
  rw [cmpV_eq] at k'
  refine bxK hb1 (bxK hb3 ?_)
  rw [hv.kind, hw.kind]
  refine pcmp8_ok ?_
  refine ift.of (fun h => ?_) (fun h => ?_)
  · rw [if_pos (fun e => by rw [e, sgn_self] at h; simp at h)] at k'; exact k'
  have hkk : v.k = w.k := sgn_zero.1 (by simpa using h)
  rw [if_neg (by simp [hkk])] at k'
  have hr1 := hv.row.le hle
  have hr2 := hw.row.le hle
  refine bxK hb1 ?_
  rw [hv.kind]
  refine ift.of (fun h => ?_) (fun h3 => ?_)
  · have h : v.k = 3 := by simpa using h
    rw [if_pos h] at k'
    refine bxS hb1 (bxS hb3 ?_)
    rw [hv.txt, hw.txt]
    exact pbigs_ok (okN_num hF.1 h) (okN_num hF2.1 (by omega)) k'
  have h3 : ¬ v.k = 3 := by simpa using h3
  rw [if_neg h3] at k'
  refine ift.of (fun h => ?_) (fun h4 => ?_)
  · have h : v.k = 4 := by simpa using h
    rw [if_pos h] at k'
    refine bxS hb1 (bxS hb3 ?_)
    rw [hv.txt, hw.txt]
    exact pcmpS_ok k'
  have h4 : ¬ v.k = 4 := by simpa using h4
  rw [if_neg h4] at k'
  refine ⟨H1, Heap.le.refl _, ?_⟩
  refine bxN hb1 (bxN hb3 (bxS hb1 (bxS hb3 (bxL hb1 (bxL hb3 ?_)))))
  rw [hv.num, hw.num, hv.txt, hw.txt]
  refine pcmp64_ok ⟨Heap.le.refl _, pcmpS_ok ⟨Heap.le.refl _, ?_⟩⟩
  refine prows_gen hr1 hr2 hB.l hB2.l (fun p hp q hq {A x' y'} {K'} hx hy kk => ih p hp hx hy (hB.ls.mem hp) (hB2.ls.mem hq) (formVs_mem hp hF.2) (formVs_mem hq hF2.2) kk) ⟨Heap.le.refl _, ?_⟩
  intro b5 n5
  have hle5 := Heap.le_put n5 (g := .row [Value.int .i64 (sgn v.n w.n), .int .i64 (vcmpS v.s w.s), .int .i64 (cmpVs v.l w.l)]) (m := true)
  refine ⟨hle5, ?_⟩
  refine por_ok (l := [sgn v.n w.n, vcmpS v.s w.s, cmpVs v.l w.l]) (Heap.put_same ..) rfl (by simp) ⟨hle5, ?_⟩
  rw [or3]
  obtain ⟨H0, hg, hk⟩ := k'
  refine ⟨H0, (Gh.le hle5).trans hg, ?_⟩
  rcases okN_kinds hF.1 with ⟨e, e1, e2⟩ | ⟨e, e1, e2⟩ | ⟨e, _⟩ | ⟨e, _⟩ | ⟨e, e1, e2⟩ | ⟨e, e1⟩
  · rcases okN_kinds hF2.1 with ⟨f, f1, f2⟩ | ⟨f, _⟩ | ⟨f, _⟩ | ⟨f, _⟩ | ⟨f, _⟩ | ⟨f, _⟩ <;> try (exfalso; omega)
    rw [if_neg (by omega), if_neg (by omega)] at hk
    have l1 := List.length_eq_zero_iff.1 e2
    have l2 := List.length_eq_zero_iff.1 f2
    rw [e1, f1, l1, l2]
    split
    · exact hk
    · rename_i hz
      have : sgn v.n w.n = 0 := by omega
      rw [this] at hk
      simpa [vcmpS, cmpVs] using hk
  · rcases okN_kinds hF2.1 with ⟨f, _⟩ | ⟨f, f1, f2⟩ | ⟨f, _⟩ | ⟨f, _⟩ | ⟨f, _⟩ | ⟨f, _⟩ <;> try (exfalso; omega)
    rw [if_neg (by omega), if_neg (by omega)] at hk
    have l1 := List.length_eq_zero_iff.1 e2
    have l2 := List.length_eq_zero_iff.1 f2
    rw [e1, f1, l1, l2]
    split
    · exact hk
    · rename_i hz
      have : sgn v.n w.n = 0 := by omega
      rw [this] at hk
      simpa [vcmpS, cmpVs] using hk
  · exact absurd e h3
  · exact absurd e h4
  · rcases okN_kinds hF2.1 with ⟨f, _⟩ | ⟨f, _⟩ | ⟨f, _⟩ | ⟨f, _⟩ | ⟨f, f1, f2⟩ | ⟨f, _⟩ <;> try (exfalso; omega)
    rw [if_pos e] at hk
    rw [e1, f1, e2, f2, sgn_self]
    simpa [vcmpS] using hk
  · rcases okN_kinds hF2.1 with ⟨f, _⟩ | ⟨f, _⟩ | ⟨f, _⟩ | ⟨f, _⟩ | ⟨f, _⟩ | ⟨f, f1⟩ <;> try (exfalso; omega)
    rw [if_neg (by omega), if_pos e] at hk
    rw [e1, f1, sgn_self]
    simpa using hk

theorem prows_ok {l m : List V} {s t : Sl} {K : Int → Heap → Prop} (hs : VRow H s l) (ht : VRow H t m) (hl : l.length ≤ 140737488355328) (hm : m.length ≤ 140737488355328) (hB : VBs l) (hB2 : VBs m) (hF : mayR l = true) (hF2 : mayR m = true) (k : K (cmpVs l m) H) : c_value_rows C s t K H :=
  prows_gen hs ht hl hm (fun p hp q hq {A x' y'} {K'} hx hy kk => pcmp_ok hx hy (hB.mem hp) (hB2.mem hq) (mayV_form (List.all_eq_true.1 hF p hp)) (mayV_form (List.all_eq_true.1 hF2 q hq)) kk) k
theorem pCmpRows_ok {l m : List V} {s t : Sl} {K : Int → Heap → Prop} (hs : VRow H s l) (ht : VRow H t m) (hl : l.length ≤ 140737488355328) (hm : m.length ≤ 140737488355328) (hB : VBs l) (hB2 : VBs m) (k : K (cmpR l m) H) : c_value_CmpRows C s t K H := by
  apply ad_value_CmpRows
  unfold sh_value_CmpRows
  refine pmay_ok hs hl hB (pmay_ok ht hm hB2 ?_)
  unfold cmpR at k
  refine ift.of (fun h => ?_) (fun h => ?_)
  · refine plast_ok ?_
    rw [if_neg (by intro hh; rw [hh.1, hh.2] at h; cases h)] at k; exact k
  · have h1 : mayR l = true ∧ mayR m = true := by simpa using h
    rw [if_pos h1] at k
    exact prows_ok hs ht hl hm hB hB2 h1.1 h1.2 k
end
end Sx
end

noncomputable section
set_option linter.unusedVariables false
set_option linter.unusedSimpArgs false
namespace Sx
open Go Go.Proofs
/-- an order, told by signs -/
structure Lin {α : Type} (f : α → α → Int) (P : α → Prop) : Prop where
  anti : ∀ a b, P a → P b → f b a = - f a b
  rng : ∀ a b, P a → P b → -1 ≤ f a b ∧ f a b ≤ 1
  tr : ∀ a b c, P a → P b → P c → f a b ≤ 0 → f b c ≤ 0 → f a c ≤ 0 ∧ (f a b < 0 ∨ f b c < 0 → f a c < 0)
section
variable {α β : Type} {f g : α → α → Int} {P Q : α → Prop}
theorem Lin.refl (h : Lin f P) {a : α} (ha : P a) : f a a = 0 := by have := h.anti a a ha ha; omega
theorem Lin.l0 (h : Lin f P) {a b c : α} (ha : P a) (hb : P b) (hc : P c) (e : f a b = 0) : f a c = f b c := by
  have t1 := h.tr a b c ha hb hc (by omega)
  have e' := h.anti a b ha hb
  have t2 := h.tr b a c hb ha hc (by omega)
  have r1 := h.rng a c ha hc
  have r2 := h.rng b c hb hc
  rcases Int.lt_trichotomy (f b c) 0 with h1 | h1 | h1
  · have := (t1 (by omega)).2 (.inr h1); omega
  · have k1 := (t1 (by omega)).1
    rcases Int.lt_trichotomy (f a c) 0 with h2 | h2 | h2
    · have := (t2 (by omega)).2 (.inr h2); omega
    · omega
    · omega
  · rcases Int.lt_trichotomy (f a c) 0 with h2 | h2 | h2
    · have := (t2 (by omega)).2 (.inr h2); omega
    · have := (t2 (by omega)).1; omega
    · omega
theorem Lin.r0 (h : Lin f P) {a b c : α} (ha : P a) (hb : P b) (hc : P c) (e : f b c = 0) : f a c = f a b := by
  have h1 := h.anti b c hb hc
  have h2 := h.l0 hc hb ha (by omega)
  have h3 := h.anti a c ha hc
  have h4 := h.anti a b ha hb
  omega
theorem Lin.sub (h : Lin f P) (hs : ∀ a, Q a → P a) : Lin f Q := ⟨fun a b ha hb => h.anti a b (hs a ha) (hs b hb), fun a b ha hb => h.rng a b (hs a ha) (hs b hb), fun a b c ha hb hc => h.tr a b c (hs a ha) (hs b hb) (hs c hc)⟩
theorem Lin.swap (h : Lin f P) : Lin (fun a b => f b a) P := ⟨fun a b ha hb => h.anti b a hb ha, fun a b ha hb => h.rng b a hb ha, fun a b c ha hb hc h1 h2 => by
  have := h.tr c b a hc hb ha h2 h1
  exact ⟨this.1, fun hh => this.2 hh.symm⟩⟩
theorem Lin.comp {f : β → β → Int} {P : β → Prop} (h : Lin f P) (u : α → β) : Lin (fun a b => f (u a) (u b)) (fun a => P (u a)) :=
  ⟨fun a b ha hb => h.anti _ _ ha hb, fun a b ha hb => h.rng _ _ ha hb, fun a b c ha hb hc => h.tr _ _ _ ha hb hc⟩
theorem Lin.or (h : Lin f P) (h2 : Lin g P) : Lin (fun a b => if f a b ≠ 0 then f a b else g a b) P := by
  refine ⟨fun a b ha hb => ?_, fun a b ha hb => ?_, fun a b c ha hb hc => ?_⟩
  · have e1 := h.anti a b ha hb
    have e2 := h2.anti a b ha hb
    try dsimp only
    by_cases hz : f a b = 0
    · rw [if_neg (by omega), if_neg (by omega)]; exact e2
    · rw [if_pos (by omega), if_pos (by omega)]; exact e1
  · try dsimp only
    split
    · exact h.rng a b ha hb
    · exact h2.rng a b ha hb
  · try dsimp only
    have t := h.tr a b c ha hb hc
    have t2 := h2.tr a b c ha hb hc
    by_cases h1 : f a b = 0
    · have e := h.l0 ha hb hc h1
      by_cases h3 : f b c = 0
      · rw [if_neg (by omega), if_neg (by omega), if_neg (by omega)]; exact t2
      · rw [if_neg (by omega), if_pos h3, if_pos (by omega)]
        intro _ k2
        exact ⟨by omega, fun _ => by omega⟩
    · by_cases h3 : f b c = 0
      · have e := h.r0 ha hb hc h3
        rw [if_pos h1, if_neg (by omega), if_pos (by omega)]
        intro k1 _
        exact ⟨by omega, fun _ => by omega⟩
      · rw [if_pos h1, if_pos h3]
        intro k1 k2
        have := (t k1 k2).2 (.inl (by omega))
        rw [if_pos (by omega)]
        exact ⟨by omega, fun _ => this⟩
/-- first by classes, then within a class -/
theorem Lin.sel {κ : α → Int} {B : Int → α → α → Int} (hs : Lin (fun a b : Int => sgn a b) fun _ => True) (h : ∀ k, Lin (B k) P) : Lin (fun a b => if κ a ≠ κ b then sgn (κ a) (κ b) else B (κ a) a b) P := by
  refine ⟨fun a b ha hb => ?_, fun a b ha hb => ?_, fun a b c ha hb hc => ?_⟩
  · try dsimp only
    by_cases hz : κ a = κ b
    · rw [if_neg (by omega), if_neg (by omega), hz]; exact (h _).anti a b ha hb
    · rw [if_pos (by omega), if_pos (by omega)]; exact hs.anti _ _ trivial trivial
  · try dsimp only
    split
    · exact hs.rng _ _ trivial trivial
    · exact (h _).rng a b ha hb
  · try dsimp only
    have t := hs.tr (κ a) (κ b) (κ c) trivial trivial trivial
    try dsimp only at t
    by_cases h1 : κ a = κ b
    · by_cases h3 : κ b = κ c
      · rw [if_neg (by omega), if_neg (by omega), if_neg (by omega), ← h1]; exact (h _).tr a b c ha hb hc
      · rw [if_neg (by omega), if_pos h3, if_pos (by omega), h1]
        intro _ k2
        have := sgn_zero (a := κ b) (b := κ c)
        exact ⟨by omega, fun _ => by omega⟩
    · have z1 := sgn_zero (a := κ a) (b := κ b)
      by_cases h3 : κ b = κ c
      · rw [if_pos h1, if_neg (by omega), if_pos (by omega), ← h3]
        intro k1 _
        exact ⟨by omega, fun _ => by omega⟩
      · rw [if_pos h1, if_pos h3]
        intro k1 k2
        have := (t k1 k2).2 (.inl (by omega))
        have z2 := sgn_neg.1 this
        rw [if_pos (by omega)]
        exact ⟨by omega, fun _ => this⟩
end
theorem Lin.sgn : Lin (fun a b : Int => sgn a b) fun _ => True := by
  refine ⟨fun a b _ _ => ?_, fun a b _ _ => sgn_rng a b, fun a b c _ _ _ h1 h2 => ?_⟩
  · unfold Sx.sgn; split <;> split <;> omega
  · have n1 := sgn_neg (a := a) (b := b)
    have n2 := sgn_neg (a := b) (b := c)
    have n3 := sgn_neg (a := a) (b := c)
    have z1 := sgn_zero (a := a) (b := b)
    have z2 := sgn_zero (a := b) (b := c)
    have z3 := sgn_zero (a := a) (b := c)
    omega
def lexF {α : Type} (f : α → α → Int) : List α → List α → Int
  | [], [] => 0
  | [], _ :: _ => -1
  | _ :: _, [] => 1
  | a :: s, b :: t => if f a b ≠ 0 then f a b else lexF f s t
theorem Lin.lex {α : Type} {f : α → α → Int} {P : α → Prop} (h : Lin f P) : Lin (lexF f) (fun l => ∀ a ∈ l, P a) := by
  refine ⟨fun l => ?_, fun l => ?_, fun l => ?_⟩
  · induction l with
    | nil => intro m _ _; cases m <;> simp [lexF]
    | cons a l ih =>
      intro m hl hm
      cases m with
      | nil => simp [lexF]
      | cons b m =>
        have ha := hl a (List.mem_cons_self ..)
        have hb := hm b (List.mem_cons_self ..)
        have e1 := h.anti a b ha hb
        have e2 := ih m (fun x hx => hl x (List.mem_cons_of_mem _ hx)) (fun x hx => hm x (List.mem_cons_of_mem _ hx))
        simp only [lexF]
        by_cases hz : f a b = 0
        · rw [if_neg (by omega), if_neg (by omega)]; exact e2
        · rw [if_pos (by omega), if_pos (by omega)]; exact e1
  · induction l with
    | nil => intro m _ _; cases m <;> simp [lexF]
    | cons a l ih =>
      intro m hl hm
      cases m with
      | nil => simp [lexF]
      | cons b m =>
        simp only [lexF]
        split
        · exact h.rng a b (hl a (List.mem_cons_self ..)) (hm b (List.mem_cons_self ..))
        · exact ih m (fun x hx => hl x (List.mem_cons_of_mem _ hx)) (fun x hx => hm x (List.mem_cons_of_mem _ hx))
  · induction l with
    | nil =>
      intro m n _ _ _ h1 h2
      cases n with
      | nil =>
        cases m with
        | nil => simp [lexF]
        | cons b m => simp [lexF] at h2
      | cons c n => simp [lexF]
    | cons a l ih =>
      intro m n hl hm hn
      cases m with
      | nil => intro h1; simp [lexF] at h1
      | cons b m =>
      cases n with
      | nil => intro _ h2; simp [lexF] at h2
      | cons c n =>
        have ha := hl a (List.mem_cons_self ..)
        have hb := hm b (List.mem_cons_self ..)
        have hc := hn c (List.mem_cons_self ..)
        have t := h.tr a b c ha hb hc
        have t2 := ih m n (fun x hx => hl x (List.mem_cons_of_mem _ hx)) (fun x hx => hm x (List.mem_cons_of_mem _ hx)) (fun x hx => hn x (List.mem_cons_of_mem _ hx))
        simp only [lexF]
        by_cases h1 : f a b = 0
        · have e := h.l0 ha hb hc h1
          by_cases h3 : f b c = 0
          · rw [if_neg (by omega), if_neg (by omega), if_neg (by omega)]; exact t2
          · rw [if_neg (by omega), if_pos h3, if_pos (by omega)]
            intro _ k2
            exact ⟨by omega, fun _ => by omega⟩
        · by_cases h3 : f b c = 0
          · have e := h.r0 ha hb hc h3
            rw [if_pos h1, if_neg (by omega), if_pos (by omega)]
            intro k1 _
            exact ⟨by omega, fun _ => by omega⟩
          · rw [if_pos h1, if_pos h3]
            intro k1 k2
            have := (t k1 k2).2 (.inl (by omega))
            rw [if_pos (by omega)]
            exact ⟨by omega, fun _ => this⟩

theorem vcmpS_lex : ∀ s t : Str, vcmpS s t = lexF (fun a b : UInt8 => sgn a.toNat b.toNat) s t
  | [], [] => rfl
  | [], _ :: _ => rfl
  | _ :: _, [] => rfl
  | a :: s, b :: t => by
    simp only [vcmpS, lexF, vcmpS_lex s t]
    by_cases h : a = b
    · subst h; rw [sgn_self]; simp
    · have : ¬ sgn a.toNat b.toNat = 0 := fun e => h (UInt8.toNat_inj.1 (by have := sgn_zero.1 e; omega))
      rw [if_neg h, if_pos this]
theorem Lin.txt : Lin vcmpS fun _ => True := by
  have h := (Lin.sgn.comp (fun a : UInt8 => (a.toNat : Int))).lex
  have e : vcmpS = lexF (fun a b : UInt8 => Sx.sgn a.toNat b.toNat) := funext fun s => funext fun t => vcmpS_lex s t
  rw [e]
  exact h.sub fun _ _ _ _ => trivial
theorem Lin.dig : Lin cmpD fun _ => True := by
  have h := (Lin.sgn.comp (fun a : Str => (a.length : Int))).or Lin.txt
  have e : cmpD = fun a b : Str => if Sx.sgn a.length b.length ≠ 0 then Sx.sgn a.length b.length else vcmpS a b := funext fun a => funext fun b => by
    unfold cmpD
    by_cases hl : a.length = b.length
    · rw [if_pos hl, if_neg (by rw [hl, sgn_self]; simp)]
    · rw [if_neg hl, if_pos (fun e => hl (by have := sgn_zero.1 e; omega))]
  rw [e]; exact h
theorem Lin.bigs : Lin cmpB fun _ => True := by
  have h := Lin.sel (α := Str) (P := fun _ => True) (κ := fun s => if isMin s then 0 else 1) (B := fun k a b => if k = 0 then cmpD b.tail a.tail else cmpD a b) Lin.sgn fun k => by
    by_cases hk : k = 0
    · subst hk
      simp only [if_true]
      exact (Lin.dig.swap.comp List.tail)
    · simp only [if_neg hk]
      exact Lin.dig
  have e : cmpB = fun a b : Str => if (if isMin a then (0 : Int) else 1) ≠ (if isMin b then 0 else 1) then Sx.sgn (if isMin a then 0 else 1) (if isMin b then 0 else 1) else (if (if isMin a then (0 : Int) else 1) = 0 then cmpD b.tail a.tail else cmpD a b) := funext fun a => funext fun b => by
    unfold cmpB
    cases ha : isMin a <;> cases hb : isMin b <;> simp [Sx.sgn]
  rw [e]; exact h
theorem cmpVs_lex : ∀ l m : List V, cmpVs l m = lexF cmpV l m
  | [], [] => rfl
  | [], _ :: _ => rfl
  | _ :: _, [] => rfl
  | v :: l, w :: m => by simp only [cmpVs, lexF, cmpVs_lex l m]
theorem Lin.vals : ∀ n : Nat, Lin cmpV fun v => vsize v ≤ n := by
  intro n
  induction n with
  | zero => exact ⟨fun a b ha => by obtain ⟨k, n, s, l⟩ := a; simp [vsize] at ha, fun a b ha => by obtain ⟨k, n, s, l⟩ := a; simp [vsize] at ha, fun a b c ha => by obtain ⟨k, n, s, l⟩ := a; simp [vsize] at ha⟩
  | succ n ih =>
    have hl : Lin (fun v w : V => cmpVs v.l w.l) fun v => vsize v ≤ n + 1 := by
      have h := (ih.lex).comp V.l
      have e : (fun v w : V => cmpVs v.l w.l) = fun v w : V => lexF cmpV v.l w.l := funext fun v => funext fun w => cmpVs_lex _ _
      rw [e]
      exact h.sub fun v hv x hx => by have := vsize_l hx; omega
    have hs : Lin (fun v w : V => vcmpS v.s w.s) fun v => vsize v ≤ n + 1 := (Lin.txt.comp V.s).sub fun _ _ => trivial
    have h := Lin.sel (α := V) (P := fun v => vsize v ≤ n + 1) (κ := V.k) (B := fun k v w => if k = 3 then cmpB v.s w.s else if k = 4 then vcmpS v.s w.s else if k = 5 then cmpVs v.l w.l else if k = 6 then (if vcmpS v.s w.s ≠ 0 then vcmpS v.s w.s else cmpVs v.l w.l) else Sx.sgn v.n w.n) Lin.sgn fun k => by
      by_cases h3 : k = 3
      · simp only [if_pos h3]; exact (Lin.bigs.comp V.s).sub fun _ _ => trivial
      simp only [if_neg h3]
      by_cases h4 : k = 4
      · simp only [if_pos h4]; exact hs
      simp only [if_neg h4]
      by_cases h5 : k = 5
      · simp only [if_pos h5]; exact hl
      simp only [if_neg h5]
      by_cases h6 : k = 6
      · simp only [if_pos h6]; exact hs.or hl
      simp only [if_neg h6]
      exact (Lin.sgn.comp V.n).sub fun _ _ => trivial
    have e : cmpV = fun v w : V => if v.k ≠ w.k then Sx.sgn v.k w.k else if v.k = 3 then cmpB v.s w.s else if v.k = 4 then vcmpS v.s w.s else if v.k = 5 then cmpVs v.l w.l else if v.k = 6 then (if vcmpS v.s w.s ≠ 0 then vcmpS v.s w.s else cmpVs v.l w.l) else Sx.sgn v.n w.n := funext fun v => funext fun w => cmpV_eq v w
    rw [e]; exact h
theorem Lin.val : Lin cmpV fun _ => True := by
  refine ⟨fun a b _ _ => ?_, fun a b _ _ => ?_, fun a b c _ _ _ => ?_⟩
  · exact (Lin.vals (vsize a + vsize b)).anti a b (by omega) (by omega)
  · exact (Lin.vals (vsize a + vsize b)).rng a b (by omega) (by omega)
  · exact (Lin.vals (vsize a + vsize b + vsize c)).tr a b c (by omega) (by omega) (by omega)
theorem Lin.vs : Lin cmpVs fun _ => True := by
  have e : cmpVs = lexF cmpV := funext fun l => funext fun m => cmpVs_lex l m
  rw [e]
  exact Lin.val.lex.sub fun _ _ _ _ => trivial
theorem Lin.row : Lin cmpR fun _ => True := by
  have h := Lin.sel (α := List V) (P := fun _ => True) (κ := fun l => if mayR l then 0 else 1) (B := fun k a b => if k = 0 then cmpVs a b else 0) Lin.sgn fun k => by
    by_cases hk : k = 0
    · simp only [if_pos hk]; exact Lin.vs
    · simp only [if_neg hk]
      exact ⟨fun _ _ _ _ => rfl, fun _ _ _ _ => by simp, fun _ _ _ _ _ _ _ _ => by simp⟩
  have e : cmpR = fun a b : List V => if (if mayR a then (0 : Int) else 1) ≠ (if mayR b then 0 else 1) then Sx.sgn (if mayR a then 0 else 1) (if mayR b then 0 else 1) else (if (if mayR a then (0 : Int) else 1) = 0 then cmpVs a b else 0) := funext fun a => funext fun b => by
    unfold cmpR lastB
    cases ha : mayR a <;> cases hb : mayR b <;> simp [Sx.sgn]
  rw [e]; exact h

end Sx
end

noncomputable section
set_option linter.unusedVariables false
set_option linter.unusedSimpArgs false
namespace Sx
open Go Go.Proofs
section
variable {α : Type} {κ : α → α → Int} {ι : α → Nat} {P : α → Prop}
/-- stands ahead; of two alike the one that was ahead -/
def Bf (κ : α → α → Int) (ι : α → Nat) (x y : α) : Prop := κ x y < 0 ∨ (κ x y = 0 ∧ ι x < ι y)
theorem Bf.le {x y : α} (h : Bf κ ι x y) : κ x y ≤ 0 := by rcases h with h | h <;> omega
theorem Bf.of {x y : α} (h : κ x y ≤ 0) (hi : ι x < ι y) : Bf κ ι x y := by
  rcases Int.lt_or_eq_of_le h with h | h
  · exact .inl h
  · exact .inr ⟨h, hi⟩
theorem pw_mid {R : α → α → Prop} {Y : List α} (h : Y.Pairwise R) {i : Nat} (hi : i < Y.length) : (∀ y ∈ Y.take i, R y Y[i]) ∧ (∀ y ∈ Y.drop (i + 1), R Y[i] y) := by
  have h' : (Y.take i ++ Y[i] :: Y.drop (i + 1)).Pairwise R := by rw [← List.drop_eq_getElem_cons hi, List.take_append_drop]; exact h
  rw [List.pairwise_append] at h'
  exact ⟨fun y hy => h'.2.2 y hy _ (List.mem_cons_self ..), fun y hy => (List.pairwise_cons.1 h'.2.1).1 y hy⟩
theorem pw_split {R : α → α → Prop} {Y : List α} (h : Y.Pairwise R) (i : Nat) : (Y.take i).Pairwise R ∧ (Y.drop i).Pairwise R ∧ ∀ x ∈ Y.take i, ∀ y ∈ Y.drop i, R x y := by
  have h' : (Y.take i ++ Y.drop i).Pairwise R := by rw [List.take_append_drop]; exact h
  exact List.pairwise_append.1 h'
theorem eq_mid {Y : List α} {i : Nat} (hi : i < Y.length) : Y = Y.take i ++ Y[i] :: Y.drop (i + 1) := by rw [← List.drop_eq_getElem_cons hi, List.take_append_drop]
theorem mem_take {Y : List α} {i : Nat} {x : α} (h : x ∈ Y.take i) : x ∈ Y := List.mem_of_mem_take h
theorem mem_drop {Y : List α} {i : Nat} {x : α} (h : x ∈ Y.drop i) : x ∈ Y := List.mem_of_mem_drop h
theorem snoc_of {Y : List α} (h : Y ≠ []) : ∃ Z z, Y = Z ++ [z] := ⟨Y.dropLast, Y.getLast h, (List.dropLast_concat_getLast h).symm⟩
/-- one, then many -/
theorem ins1 (hL : Lin κ P) {x : α} {Y1 Y2 : List α} (hY : (Y1 ++ Y2).Pairwise (Bf κ ι)) (hPx : P x) (hPY : ∀ y ∈ Y1 ++ Y2, P y) (h1 : ∀ y ∈ Y1, κ y x < 0) (h2 : ∀ y ∈ Y2, ¬ κ y x < 0) (hi : ∀ y ∈ Y1 ++ Y2, ι x < ι y) : (Y1 ++ x :: Y2).Pairwise (Bf κ ι) := by
  rw [List.pairwise_append] at hY ⊢
  refine ⟨hY.1, List.pairwise_cons.2 ⟨fun y hy => ?_, hY.2.1⟩, fun y hy z hz => ?_⟩
  · have hm := List.mem_append_right Y1 hy
    have := hL.anti y x (hPY y hm) hPx
    have := h2 y hy
    exact Bf.of (by omega) (hi y hm)
  · rcases List.mem_cons.1 hz with rfl | hz
    · exact .inl (h1 y hy)
    · exact hY.2.2 y hy z hz
/-- many, then one -/
theorem ins2 (hL : Lin κ P) {y : α} {X1 X2 : List α} (hX : (X1 ++ X2).Pairwise (Bf κ ι)) (hPy : P y) (hPX : ∀ x ∈ X1 ++ X2, P x) (h1 : ∀ x ∈ X1, ¬ κ y x < 0) (h2 : ∀ x ∈ X2, κ y x < 0) (hi : ∀ x ∈ X1 ++ X2, ι x < ι y) : (X1 ++ y :: X2).Pairwise (Bf κ ι) := by
  rw [List.pairwise_append] at hX ⊢
  refine ⟨hX.1, List.pairwise_cons.2 ⟨fun x hx => .inl (h2 x hx), hX.2.1⟩, fun x hx z hz => ?_⟩
  rcases List.mem_cons.1 hz with rfl | hz
  · have hm := List.mem_append_left X2 hx
    have := hL.anti z x hPy (hPX x hm)
    have := h1 x hx
    exact Bf.of (by omega) (hi x hm)
  · exact hX.2.2 x hx z hz

/-- what was sorted by blocks -/
inductive Ch (κ : α → α → Int) (ι : α → Nat) (bs : Nat) : List α → List α → Prop
  | last {Z L : List α} : L.length < bs → Z.Perm L → Z.Pairwise (Bf κ ι) → Ch κ ι bs Z L
  | cons {Z L Z' L' : List α} : L.length = bs → Z.Perm L → Z.Pairwise (Bf κ ι) → Ch κ ι bs Z' L' → Ch κ ι bs (Z ++ Z') (L ++ L')
theorem Ch.perm {bs : Nat} {Z L : List α} (h : Ch κ ι bs Z L) : Z.Perm L := by
  induction h with
  | last _ h _ => exact h
  | cons _ h _ _ ih => exact h.append ih
theorem Ch.big {bs : Nat} {Z L : List α} (h : Ch κ ι bs Z L) (hl : bs ≤ L.length) : ∃ Z1 Z2 L1 L2, Z = Z1 ++ Z2 ∧ L = L1 ++ L2 ∧ L1.length = bs ∧ Z1.Perm L1 ∧ Z1.Pairwise (Bf κ ι) ∧ Ch κ ι bs Z2 L2 := by
  cases h with
  | last h _ _ => omega
  | cons h1 h2 h3 h4 => exact ⟨_, _, _, _, rfl, rfl, h1, h2, h3, h4⟩
theorem Ch.small {bs : Nat} {Z L : List α} (h : Ch κ ι bs Z L) (hl : L.length < bs) : Z.Pairwise (Bf κ ι) := by
  cases h with
  | last _ _ h => exact h
  | cons h1 h2 h3 h4 => rw [List.length_append] at hl; omega
theorem Ch.all {bs : Nat} {Z L : List α} (h : Ch κ ι bs Z L) (hl : L.length ≤ bs) (h0 : 0 < bs) : Z.Pairwise (Bf κ ι) := by
  cases h with
  | last _ _ h => exact h
  | @cons Z1 L1 Z2 L2 h1 h2 h3 h4 =>
    rw [List.length_append] at hl
    have hp := h4.perm.length_eq
    have e : Z2 = [] := List.length_eq_zero_iff.1 (by rw [hp]; omega)
    rw [e, List.append_nil]; exact h3
end
theorem half_ok {a b : Nat} (h : a + b ≤ 4611686018427387904) : w .i64 (sShr .u64 (w .u64 (w .i64 ((a : Int) + (b : Int)))) 1) = (((a + b) / 2 : Nat) : Int) := by
  have e1 : w .u64 ((a : Int) + b) = (a : Int) + b := by
    exact w_u64 (by omega) (by omega)
  have e2 : sShr .u64 ((a : Int) + b) 1 = (((a + b) / 2 : Nat) : Int) := by
    unfold sShr
    have : (2 : Int) ^ (min (1 : Int).toNat IntKind.u64.bits) = 2 := by decide
    rw [this, Int.fdiv_eq_ediv_of_nonneg _ (by omega)]; omega
  rw [w_i64 (x := (a : Int) + b) (by omega) (by omega), e1, e2, w_i64 (by omega) (by omega)]
end Sx
end

noncomputable section
set_option linter.unusedVariables false
set_option linter.unusedSimpArgs false
namespace Sx
open Go Go.Proofs
section
variable {α β : Type} {κ : α → α → Int} {ι : α → Nat} {P : α → Prop}
/-- those behind p that are unlike the one ahead of them -/
def cpt (κ : α → α → Int) : α → List α → List α
  | _, [] => []
  | p, y :: l => if κ y p = 0 then cpt κ y l else y :: cpt κ y l
def cmpct (κ : α → α → Int) : List α → List α
  | [] => []
  | x :: l => x :: cpt κ x l
theorem cpt_snoc {x y : α} : ∀ (l : List α) (p : α), cpt κ p (l ++ [x, y]) = cpt κ p (l ++ [x]) ++ (if κ y x = 0 then [] else [y])
  | [], p => by
    simp only [List.nil_append, cpt]
    by_cases h : κ y x = 0 <;> by_cases h2 : κ x p = 0 <;> simp [h, h2]
  | z :: l, p => by
    have ih := cpt_snoc (x := x) (y := y) l z
    simp only [List.cons_append, cpt]
    by_cases h2 : κ z p = 0
    · rw [if_pos h2, if_pos h2, ih]
    · rw [if_neg h2, if_neg h2, ih, List.cons_append]
theorem cmpct_snoc {x y : α} : ∀ l : List α, cmpct κ (l ++ [x, y]) = cmpct κ (l ++ [x]) ++ (if κ y x = 0 then [] else [y])
  | [] => by
    simp only [List.nil_append, cmpct, cpt]
    by_cases h : κ y x = 0 <;> simp [h]
  | z :: l => by
    simp only [List.cons_append, cmpct, cpt_snoc]
theorem cpt_len : ∀ (l : List α) (p : α), (cpt κ p l).length ≤ l.length
  | [], p => Nat.le_refl _
  | y :: l, p => by
    have := cpt_len l y
    simp only [cpt]
    split <;> simp only [List.length_cons] <;> omega
theorem cmpct_len : ∀ l : List α, (cmpct κ l).length ≤ l.length
  | [] => Nat.le_refl _
  | x :: l => by have := cpt_len (κ := κ) l x; simp only [cmpct, List.length_cons]; omega
/-- of each kind the first one, rising -/
structure Rep (κ : α → α → Int) (ι : α → Nat) (L A : List α) : Prop where
  asc : A.Pairwise fun a b => κ a b < 0
  sub : ∀ y ∈ A, y ∈ L
  all : ∀ x ∈ L, ∃ y ∈ A, κ y x = 0
  fst : ∀ y ∈ A, ∀ x ∈ L, κ y x = 0 → x = y ∨ ι y < ι x
theorem Rep.perm {L M A : List α} (h : Rep κ ι L A) (hp : L.Perm M) : Rep κ ι M A :=
  ⟨h.asc, fun y hy => hp.mem_iff.1 (h.sub y hy), fun x hx => h.all x (hp.mem_iff.2 hx), fun y hy x hx => h.fst y hy x (hp.mem_iff.2 hx)⟩
theorem asc_ext (hL : Lin κ P) : ∀ {A B : List α}, A.Pairwise (fun a b => κ a b < 0) → B.Pairwise (fun a b => κ a b < 0) → (∀ x ∈ A, P x) → (∀ x, x ∈ A ↔ x ∈ B) → A = B
  | [], [], _, _, _, _ => rfl
  | [], b :: B, _, _, _, h => absurd ((h b).2 (List.mem_cons_self ..)) (by simp)
  | a :: A, [], _, _, _, h => absurd ((h a).1 (List.mem_cons_self ..)) (by simp)
  | a :: A, b :: B, hA, hB, hP, h => by
    rw [List.pairwise_cons] at hA hB
    have hab : a = b := by
      rcases List.mem_cons.1 ((h a).1 (List.mem_cons_self ..)) with e | e
      · exact e
      rcases List.mem_cons.1 ((h b).2 (List.mem_cons_self ..)) with e2 | e2
      · exact e2.symm
      have h1 := hB.1 a e
      have h2 := hA.1 b e2
      have := hL.anti a b (hP a (List.mem_cons_self ..)) (hP b ((h b).2 (List.mem_cons_self ..)))
      omega
    subst hab
    have hr := hL.refl (hP a (List.mem_cons_self ..))
    rw [asc_ext hL hA.2 hB.2 (fun x hx => hP x (List.mem_cons_of_mem _ hx)) fun x => ⟨fun hx => ?_, fun hx => ?_⟩]
    · rcases List.mem_cons.1 ((h x).1 (List.mem_cons_of_mem _ hx)) with e | e
      · have := hA.1 x hx; rw [e] at this; omega
      · exact e
    · rcases List.mem_cons.1 ((h x).2 (List.mem_cons_of_mem _ hx)) with e | e
      · have := hB.1 x hx; rw [e] at this; omega
      · exact e
theorem Rep.uniq (hL : Lin κ P) {L A B : List α} (hP : ∀ x ∈ L, P x) (ha : Rep κ ι L A) (hb : Rep κ ι L B) : A = B := by
  have key : ∀ {A B : List α}, Rep κ ι L A → Rep κ ι L B → ∀ x ∈ A, x ∈ B := fun {A B} ha hb x hx => by
    have hxl := ha.sub x hx
    obtain ⟨z, hz, e⟩ := hb.all x hxl
    have hzl := hb.sub z hz
    have e2 := hL.anti x z (hP x hxl) (hP z hzl)
    rcases hb.fst z hz x hxl e with h | h
    · rw [h]; exact hz
    rcases ha.fst x hx z hzl (by omega) with h2 | h2
    · rw [← h2]; exact hz
    · omega
  exact asc_ext hL ha.asc hb.asc (fun x hx => hP x (ha.sub x hx)) fun x => ⟨key ha hb x, key hb ha x⟩

theorem cpt_ok (hL : Lin κ P) : ∀ (l : List α) (p : α), (p :: l).Pairwise (Bf κ ι) → (∀ x ∈ p :: l, P x) →
    (∀ y ∈ cpt κ p l, y ∈ l ∧ κ p y < 0) ∧ ((cpt κ p l).Pairwise fun a b => κ a b < 0) ∧ (∀ x ∈ l, κ p x = 0 ∨ ∃ y ∈ cpt κ p l, κ y x = 0) ∧ (∀ y ∈ cpt κ p l, ∀ x ∈ p :: l, κ y x = 0 → x = y ∨ ι y < ι x)
  | [], p, _, _ => ⟨fun y hy => (by cases hy), .nil, fun x hx => (by cases hx), fun y hy => (by cases hy)⟩
  | y :: l, p, hs, hP => by
    have hs1 := (List.pairwise_cons.1 hs)
    have hs2 := (List.pairwise_cons.1 hs1.2)
    have hp := hP p (List.mem_cons_self ..)
    have hP2 : ∀ x ∈ y :: l, P x := fun x hx => hP x (List.mem_cons_of_mem _ hx)
    have hy := hP2 y (List.mem_cons_self ..)
    have hPl : ∀ x ∈ l, P x := fun x hx => hP2 x (List.mem_cons_of_mem _ hx)
    obtain ⟨i1, i2, i3, i4⟩ := cpt_ok hL l y hs1.2 hP2
    have han := hL.anti p y hp hy
    have hle := (hs1.1 y (List.mem_cons_self ..)).le
    have hlt : ∀ z ∈ cpt κ y l, κ p z < 0 := fun z hz => by
      have ⟨m, n⟩ := i1 z hz
      exact (hL.tr p y z hp hy (hPl z m) hle (by omega)).2 (.inr n)
    have hpz : ∀ z ∈ l, κ p z < 0 → κ z p ≠ 0 := fun z hz h e => by
      have := hL.anti p z hp (hPl z hz); omega
    simp only [cpt]
    by_cases h : κ y p = 0
    · rw [if_pos h]
      have h0 : κ p y = 0 := by omega
      refine ⟨fun z hz => ⟨List.mem_cons_of_mem _ (i1 z hz).1, hlt z hz⟩, i2, fun x hx => ?_, fun z hz x hx e => ?_⟩
      · rcases List.mem_cons.1 hx with rfl | hx
        · exact .inl h0
        · rcases i3 x hx with h3 | h3
          · exact .inl (by rw [hL.l0 hp hy (hPl x hx) h0]; exact h3)
          · exact .inr h3
      · rcases List.mem_cons.1 hx with rfl | hx
        · exact absurd e (hpz z (i1 z hz).1 (hlt z hz))
        · exact i4 z hz x hx e
    · rw [if_neg h]
      have h0 : κ p y < 0 := by omega
      refine ⟨fun z hz => ?_, List.pairwise_cons.2 ⟨fun z hz => (i1 z hz).2, i2⟩, fun x hx => ?_, fun z hz x hx e => ?_⟩
      · rcases List.mem_cons.1 hz with rfl | hz
        · exact ⟨List.mem_cons_self .., h0⟩
        · exact ⟨List.mem_cons_of_mem _ (i1 z hz).1, hlt z hz⟩
      · rcases List.mem_cons.1 hx with rfl | hx
        · exact .inr ⟨_, List.mem_cons_self .., hL.refl hy⟩
        · rcases i3 x hx with h3 | ⟨z, hz, h3⟩
          · exact .inr ⟨_, List.mem_cons_self .., h3⟩
          · exact .inr ⟨z, List.mem_cons_of_mem _ hz, h3⟩
      · rcases List.mem_cons.1 hz with rfl | hz
        · rcases List.mem_cons.1 hx with rfl | hx
          · exact absurd e h
          · rcases List.mem_cons.1 hx with rfl | hx
            · exact .inl rfl
            · rcases hs2.1 x hx with h5 | h5
              · omega
              · exact .inr h5.2
        · rcases List.mem_cons.1 hx with rfl | hx
          · exact absurd e (hpz z (i1 z hz).1 (hlt z hz))
          · exact i4 z hz x hx e
theorem cmpct_ok (hL : Lin κ P) {Z : List α} (hs : Z.Pairwise (Bf κ ι)) (hP : ∀ x ∈ Z, P x) : Rep κ ι Z (cmpct κ Z) := by
  cases Z with
  | nil => exact ⟨.nil, fun y hy => hy, fun x hx => (by cases hx), fun y hy => (by cases hy)⟩
  | cons p l =>
    obtain ⟨i1, i2, i3, i4⟩ := cpt_ok hL l p hs hP
    have hs1 := List.pairwise_cons.1 hs
    have hp := hP p (List.mem_cons_self ..)
    refine ⟨List.pairwise_cons.2 ⟨fun z hz => (i1 z hz).2, i2⟩, fun y hy => ?_, fun x hx => ?_, fun y hy x hx e => ?_⟩
    · rcases List.mem_cons.1 hy with rfl | hy
      · exact List.mem_cons_self ..
      · exact List.mem_cons_of_mem _ (i1 y hy).1
    · rcases List.mem_cons.1 hx with rfl | hx
      · exact ⟨_, List.mem_cons_self .., hL.refl hp⟩
      · rcases i3 x hx with h | ⟨y, hy, h⟩
        · exact ⟨p, List.mem_cons_self .., h⟩
        · exact ⟨y, List.mem_cons_of_mem _ hy, h⟩
    · rcases List.mem_cons.1 hy with rfl | hy
      · rcases List.mem_cons.1 hx with rfl | hx
        · exact .inl rfl
        · rcases hs1.1 x hx with h | h
          · omega
          · exact .inr h.2
      · exact i4 y hy x hx e

end
end Sx
end

noncomputable section
set_option linter.unusedVariables false
set_option linter.unusedSimpArgs false
namespace Sx
open Go Go.Proofs
def Heap.new (H H2 : Heap) : Heap := fun x => if (H x).isSome then none else H2 x
theorem Heap.new_some {H H2 : Heap} {x : Nat} {e : Bool × GO} (h : H2 x = some e) (hn : H x = none) : Heap.new H H2 x = some e := by
  unfold Heap.new; rw [hn]; exact h
theorem Heap.new_inv {H H2 : Heap} {x : Nat} {e : Bool × GO} (h : Heap.new H H2 x = some e) : H x = none ∧ H2 x = some e := by
  unfold Heap.new at h
  cases hx : H x with
  | none => rw [hx] at h; exact ⟨rfl, h⟩
  | some y => rw [hx] at h; cases h
theorem Heap.new_le (H H2 : Heap) : (Heap.new H H2).le H2 := fun x e h => (Heap.new_inv h).2

/-- a row of values that may be written over, with all that is in it: its blocks are N's; k deep at most -/
def Sp (N : Nat → Prop) (H : Heap) : Nat → Sl → Prop
  | 0, t => t.len = 0
  | k + 1, t => t.len = 0 ∨ ∃ (b : Nat) (xs : List TV) (sp : List Value), N b ∧ t.p = some (b, 0) ∧ t.x = none ∧ H b = some (true, .row (xs.flatMap T_api_Value.c ++ sp)) ∧ (t.len ≤ xs.length ∧ xs.length ≤ 1000000) ∧ ∀ x ∈ xs, Sp N H k x.L
section
variable {N M : Nat → Prop} {H H2 : Heap}
theorem Sp.nil (k : Nat) {t : Sl} (h : t.len = 0) : Sp N H k t := by
  cases k with
  | zero => exact h
  | succ k => exact .inl h
theorem Sp.mono : ∀ {k : Nat} {t : Sl}, Sp N H k t → Sp N H (k + 1) t
  | 0, t, h => .inl h
  | k + 1, t, .inl h => .inl h
  | k + 1, t, .inr ⟨b, xs, sp, h1, h2, h3, h4, h5, h6⟩ => .inr ⟨b, xs, sp, h1, h2, h3, h4, h5, fun x hx => Sp.mono (h6 x hx)⟩
theorem Sp.up {k m : Nat} {t : Sl} (h : Sp N H k t) (hk : k ≤ m) : Sp N H m t := by
  induction hk with
  | refl => exact h
  | step _ ih => exact ih.mono
theorem Sp.to (h : ∀ b e, N b → H b = some e → M b ∧ H2 b = some e) : ∀ {k : Nat} {t : Sl}, Sp N H k t → Sp M H2 k t
  | 0, t, h0 => h0
  | k + 1, t, .inl h0 => .inl h0
  | k + 1, t, .inr ⟨b, xs, sp, h1, h2, h3, h4, h5, h6⟩ => .inr ⟨b, xs, sp, (h b _ h1 h4).1, h2, h3, (h b _ h1 h4).2, h5, fun x hx => Sp.to h (h6 x hx)⟩
theorem Sp.all : ∀ {xs : List TV}, (∀ x ∈ xs, ∃ k, Sp N H k x.L) → ∃ k, ∀ x ∈ xs, Sp N H k x.L
  | [], _ => ⟨0, fun x hx => by cases hx⟩
  | y :: xs, h => by
    obtain ⟨k, hk⟩ := h y (List.mem_cons_self ..)
    obtain ⟨m, hm⟩ := Sp.all (xs := xs) fun x hx => h x (List.mem_cons_of_mem _ hx)
    refine ⟨max k m, fun x hx => ?_⟩
    rcases List.mem_cons.1 hx with rfl | hx
    · exact hk.up (Nat.le_max_left ..)
    · exact (hm x hx).up (Nat.le_max_right ..)

/-- what a copy is -/
structure Made (H H2 : Heap) (l : List V) (t : Sl) : Prop where
  le : H.le H2
  row : VRow (Heap.new H H2) t l
  sp : ∃ k, Sp (fun b => H b = none) H2 k t
theorem Made.row2 {l : List V} {t : Sl} (h : Made H H2 l t) : VRow H2 t l := h.row.le (Heap.new_le _ _)
theorem Made.up {H3 : Heap} {l : List V} {t : Sl} (h : Made H H2 l t) (hle : H2.le H3) : Made H H3 l t := by
  refine ⟨h.le.trans hle, h.row.le fun x e hx => ?_, ?_⟩
  · obtain ⟨a, b⟩ := Heap.new_inv hx
    exact Heap.new_some (hle _ _ b) a
  · obtain ⟨k, hk⟩ := h.sp
    exact ⟨k, hk.to fun b e h he => ⟨h, hle b e he⟩⟩
theorem Made.down {H0 : Heap} {l : List V} {t : Sl} (h : Made H H2 l t) (hle : H0.le H) : Made H0 H2 l t := by
  refine ⟨hle.trans h.le, h.row.le fun x e hx => ?_, ?_⟩
  · obtain ⟨a, b⟩ := Heap.new_inv hx
    exact Heap.new_some b (hle.none a)
  · obtain ⟨k, hk⟩ := h.sp
    exact ⟨k, hk.to fun b e h he => ⟨hle.none h, he⟩⟩
theorem Made.nil {H : Heap} {t : Sl} (h : t.len = 0) : Made H H [] t := ⟨Heap.le.refl _, ⟨[], .inl rfl, by simpa using h, trivial⟩, 0, h⟩

theorem vsizes_len : ∀ l : List V, l.length ≤ vsizes l
  | [] => Nat.le_refl _
  | v :: l => by
    have := vsizes_len l
    have hv : vsize v = vsizes v.l + 1 := by cases v; rfl
    simp only [vsizes, List.length_cons]; omega
theorem flat4 : ∀ xs : List TV, (xs.flatMap T_api_Value.c).length = xs.length * 4
  | [] => rfl
  | x :: xs => by rw [List.flatMap_cons, List.length_append, flat4 xs, TV.c_len, List.length_cons]; omega
theorem set_L {t : Sl} {sp : List Value} : ∀ (xs : List TV) (i : Nat) (hi : i < xs.length), ((xs.flatMap T_api_Value.c) ++ sp).set (i * 4 + 3) (slv t) = (xs.set i { xs[i] with L := t }).flatMap T_api_Value.c ++ sp
  | [], i, hi => by simp at hi
  | x :: xs, 0, hi => by
    simp only [List.flatMap_cons, List.getElem_cons_zero, List.set_cons_zero]
    rfl
  | x :: xs, i + 1, hi => by
    have ih := set_L (t := t) (sp := sp) xs i (by simpa using hi)
    simp only [List.flatMap_cons, List.set_cons_succ, List.getElem_cons_succ, List.append_assoc]
    have e : (i + 1) * 4 + 3 = (T_api_Value.c x).length + (i * 4 + 3) := by rw [TV.c_len]; omega
    rw [← ih, e, List.set_append_right _ _ (Nat.le_add_right ..), Nat.add_sub_cancel_left]
/-- the copy's loop: what stands in the copy's block b over B -/
structure Ow (A H B : Heap) (b i : Nat) (l : List V) (xs ys : List TV) : Prop where
  le : H.le B
  ale : A.le B
  nb : B b = none
  len : ys.length = l.length
  xlen : xs.length = l.length
  old : VsAre A l xs
  rest : ∀ j, i ≤ j → ys[j]? = xs[j]?
  done : ∀ (j : Nat) (v : V) (x : TV), j < i → l[j]? = some v → ys[j]? = some x → VIs (Heap.new H B) v x ∧ ∃ k, Sp (fun c => H c = none) B k x.L
theorem Ow.step {A B B2 : Heap} {b i : Nat} {l : List V} {xs ys : List TV} {sp : List Value} {t : Sl} (h : Ow A H B b i l xs ys) (hi : i < l.length) (hi2 : i < ys.length)
    (hm : Made (B.put b (.row (ys.flatMap T_api_Value.c ++ sp))) B2 l[i].l t) :
    Ow A H (B2.del b) b (i + 1) l xs (ys.set i { ys[i] with L := t }) ∧ B2.put b (.row (((ys.set i { ys[i] with L := t }).flatMap T_api_Value.c) ++ sp)) = (B2.del b).put b (.row (((ys.set i { ys[i] with L := t }).flatMap T_api_Value.c) ++ sp)) := by
  have hb : B.le (B2.del b) := fun x e hx => by
    have hne : x ≠ b := fun e' => by rw [e', h.nb] at hx; cases hx
    rw [Heap.del_ne _ hne]
    exact hm.le _ _ (by rw [Heap.put_ne _ _ _ hne]; exact hx)
  have hnn : (Heap.new H B).le (Heap.new H (B2.del b)) := fun x e hx => by
    obtain ⟨a, c⟩ := Heap.new_inv hx
    exact Heap.new_some (hb _ _ c) a
  have hPN : ∀ c, (B.put b (.row (ys.flatMap T_api_Value.c ++ sp))) c = none → H c = none ∧ c ≠ b := fun c hc => by
    have hne : c ≠ b := fun e' => by rw [e', Heap.put_same] at hc; cases hc
    rw [Heap.put_ne _ _ _ hne] at hc
    exact ⟨h.le.none hc, hne⟩
  refine ⟨⟨h.le.trans hb, h.ale.trans hb, Heap.del_same .., by rw [List.length_set]; exact h.len, h.xlen, h.old, fun j hj => ?_, fun j v x hj hv hx => ?_⟩, ?_⟩
  · rw [List.getElem?_set_ne (by omega)]; exact h.rest j (by omega)
  · by_cases hji : j = i
    · subst hji
      rw [List.getElem?_set_self hi2] at hx
      have hx := Option.some.inj hx
      rw [List.getElem?_eq_getElem hi] at hv
      have hv := Option.some.inj hv
      subst hx; subst hv
      have hxi := h.rest j (Nat.le_refl _)
      rw [List.getElem?_eq_getElem hi2] at hxi
      have hold := VIs_iff.1 (h.old.get j _ _ (List.getElem?_eq_getElem hi) hxi.symm)
      refine ⟨VIs_iff.2 ⟨hold.1, hold.2.1, hold.2.2.1, hm.row.le fun c e hc => ?_⟩, ?_⟩
      · obtain ⟨a1, a2⟩ := Heap.new_inv hc
        obtain ⟨a3, a4⟩ := hPN c a1
        exact Heap.new_some (by rw [Heap.del_ne _ a4]; exact a2) a3
      · obtain ⟨k, hk⟩ := hm.sp
        refine ⟨k, hk.to fun c e hc he => ⟨(hPN c hc).1, ?_⟩⟩
        rw [Heap.del_ne _ (hPN c hc).2]; exact he
    · rw [List.getElem?_set_ne (by omega)] at hx
      obtain ⟨d1, k, d2⟩ := h.done j v x (by omega) hv hx
      exact ⟨d1.le hnn, k, d2.to fun c e h he => ⟨h, hb c e he⟩⟩
  · funext x
    by_cases hx : x = b
    · subst hx; rw [Heap.put_same, Heap.put_same]
    · rw [Heap.put_ne _ _ _ hx, Heap.put_ne _ _ _ hx, Heap.del_ne _ hx]
theorem Ow.fin {A B : Heap} {b n cap : Nat} {l : List V} {xs ys : List TV} {sp : List Value} (h : Ow A H B b n l xs ys) (hn : n = l.length) (hb : H b = none) (hz : l.length ≤ 1000000) :
    Made H (B.put b (.row (ys.flatMap T_api_Value.c ++ sp))) l (Sl.of (some (b, 0)) n cap) := by
  have hBP : B.le (B.put b (.row (ys.flatMap T_api_Value.c ++ sp))) := Heap.le_put h.nb
  have hnn : (Heap.new H B).le (Heap.new H (B.put b (.row (ys.flatMap T_api_Value.c ++ sp)))) := fun x e hx => by
    obtain ⟨a, c⟩ := Heap.new_inv hx
    exact Heap.new_some (hBP _ _ c) a
  refine ⟨h.le.trans hBP, ⟨ys, .inr ⟨rfl, _, rfl, rds_row (Heap.new_some (Heap.put_same ..) hb) fun j v hj => ?_⟩, ?_, VsAre.of h.len.symm fun i v x hv hx => ?_⟩, ?_⟩
  · rw [Nat.zero_add, List.getElem?_append_left (List.getElem?_eq_some_iff.1 hj).1]; exact hj
  · show n = _; rw [hn, h.len]
  · exact (h.done i v x (by rw [hn]; exact (List.getElem?_eq_some_iff.1 hv).1) hv hx).1.le hnn
  · obtain ⟨k, hk⟩ : ∃ k, ∀ x ∈ ys, Sp (fun c => H c = none) B k x.L := Sp.all fun x hx => by
      obtain ⟨j, hj, e⟩ := List.getElem_of_mem hx
      have hl : j < l.length := by rw [← h.len]; exact hj
      exact (h.done j l[j] x (by omega) (List.getElem?_eq_getElem hl) (by rw [List.getElem?_eq_getElem hj, e])).2
    refine ⟨k + 1, .inr ⟨b, ys, sp, hb, rfl, rfl, Heap.put_same .., ⟨by show n ≤ _; rw [hn, h.len]; exact Nat.le_refl _, by rw [h.len]; exact hz⟩, fun x hx => (hk x hx).to fun c e h he => ⟨h, hBP c e he⟩⟩⟩
/-- a list that grows: what is made in it stands beside its own block -/
structure Od (H B : Heap) (l : List V) (s : Sl) (ys : List TV) : Prop where
  own : OwnF H B 4 s (ys.flatMap T_api_Value.c)
  le : ys.length ≤ l.length
  done : ∀ (j : Nat) (v : V) (x : TV), l[j]? = some v → ys[j]? = some x → VIs (Heap.new H (B.off s)) v x ∧ ∃ k, Sp (fun c => H c = none) (B.off s) k x.L
theorem Od.nil {l : List V} : Od H H l Sl.nil [] := ⟨OwnF.nil H 4, Nat.zero_le _, fun j v x _ hx => by simp at hx⟩
theorem Od.step {B B2 B3 B4 : Heap} {g : GO} {b : Nat} {l : List V} {s r t : Sl} {ys : List TV} {x : TV} (h : Od H B l s ys) (hb : B b = none) (hi : ys.length < l.length) (hm : Made (B.put b g) B2 l[ys.length].l t)
    (hx : x.Kind = l[ys.length].k ∧ x.N = l[ys.length].n ∧ x.S = l[ys.length].s) (hL : x.L = t) (h3 : Heap.but b B2 B3) (h4 : OwnF (B3.off s) B4 4 r (ys.flatMap T_api_Value.c ++ T_api_Value.c x)) : Od H B4 l r (ys ++ [x]) := by
  have hB2 : B.le B2 := (Heap.le_put hb).trans hm.le
  have hHb : H b = none := h.own.le.none hb
  have hB3 : H.le B3 := Heap.le.of_but (h.own.le.trans hB2) h3 hHb
  have hoff : (B.off s).le (B3.off s) := fun c e hc => by
    have hc' := Heap.off_le _ _ _ _ hc
    have hne : c ≠ b := fun e' => by rw [e', hb] at hc'; cases hc'
    refine Heap.off_some (h3 _ _ hne (hB2 _ _ hc')) fun p hp e' => ?_
    have := Heap.off_fresh s B p hp
    rw [e', hc] at this; cases this
  have h34 : (B3.off s).le (B4.off r) := Heap.le_off h4.le h4.fresh
  have hch : ∀ c e, (B.put b g) c = none → B2 c = some e → H c = none ∧ (B4.off r) c = some e := fun c e hn he => by
    have hne : c ≠ b := fun e' => by rw [e', Heap.put_same] at hn; cases hn
    rw [Heap.put_ne _ _ _ hne] at hn
    refine ⟨h.own.le.none hn, h34 _ _ (Heap.off_some (h3 _ _ hne he) fun p hp e' => ?_)⟩
    obtain ⟨g', hg'⟩ := h.own.own.mine hp
    rw [e', hn] at hg'; cases hg'
  have hnn : (Heap.new H (B.off s)).le (Heap.new H (B4.off r)) := fun c e hc => by
    obtain ⟨a1, a2⟩ := Heap.new_inv hc
    exact Heap.new_some (h34 _ _ (hoff _ _ a2)) a1
  refine ⟨?_, by rw [List.length_append]; exact hi, fun j v y hv hy => ?_⟩
  · have e : (ys ++ [x]).flatMap T_api_Value.c = ys.flatMap T_api_Value.c ++ T_api_Value.c x := by rw [List.flatMap_append, List.flatMap_singleton]
    rw [e]
    exact h4.down (Heap.le_off hB3 h.own.fresh)
  · by_cases hj : j < ys.length
    · rw [List.getElem?_append_left hj] at hy
      obtain ⟨d1, k, d2⟩ := h.done j v y hv hy
      exact ⟨d1.le hnn, k, d2.to fun c e h he => ⟨h, h34 _ _ (hoff _ _ he)⟩⟩
    · have hjl := (List.getElem?_eq_some_iff.1 hy).1
      rw [List.length_append, List.length_singleton] at hjl
      have hje : j = ys.length := by omega
      subst hje
      rw [List.getElem?_append_right (Nat.le_refl _), Nat.sub_self] at hy
      simp only [List.getElem?_cons_zero, Option.some.injEq] at hy
      rw [List.getElem?_eq_getElem hi] at hv
      have hv := Option.some.inj hv
      subst hy; subst hv
      refine ⟨VIs_iff.2 ⟨hx.1, hx.2.1, hx.2.2, ?_⟩, ?_⟩
      · rw [hL]
        refine hm.row.le fun c e hc => ?_
        obtain ⟨a1, a2⟩ := Heap.new_inv hc
        obtain ⟨a3, a4⟩ := hch c e a1 a2
        exact Heap.new_some a4 a3
      · obtain ⟨k, hk⟩ := hm.sp
        rw [hL]
        exact ⟨k, hk.to fun c e h he => hch c e h he⟩
theorem Od.fin {B : Heap} {l : List V} {s : Sl} {ys : List TV} (h : Od H B l s ys) (hn : ys.length = l.length) (hz : l.length ≤ 1000000) : Made H B l s := by
  have hnn : (Heap.new H (B.off s)).le (Heap.new H B) := fun x e hx => by
    obtain ⟨a, c⟩ := Heap.new_inv hx
    exact Heap.new_some (Heap.off_le _ _ _ _ c) a
  have hf := flat4 ys
  obtain ⟨o1, o2, o3, o4⟩ := h.own.own
  have hlen : s.len = ys.length := by omega
  have hvs : VsAre (Heap.new H B) l ys := VsAre.of hn.symm fun i v x hv hx => (h.done i v x hv hx).1.le hnn
  refine ⟨h.own.le, ⟨ys, ?_, hlen, hvs⟩, ?_⟩
  · rcases o4 with ⟨p0, c0⟩ | ⟨b, sp, hp, hb, hc⟩
    · left
      have : ys.length = 0 := by omega
      rw [List.length_eq_zero_iff.1 this]; rfl
    · refine .inr ⟨o2, _, hp, rds_row (Heap.new_some hb (h.own.fresh _ hp)) fun j v hj => ?_⟩
      rw [Nat.zero_add, List.getElem?_append_left (List.getElem?_eq_some_iff.1 hj).1]; exact hj
  · obtain ⟨k, hk⟩ : ∃ k, ∀ x ∈ ys, Sp (fun c => H c = none) B k x.L := Sp.all fun x hx => by
      obtain ⟨j, hj, e⟩ := List.getElem_of_mem hx
      have hl : j < l.length := by rw [← hn]; exact hj
      obtain ⟨_, k, hk⟩ := h.done j l[j] x (List.getElem?_eq_getElem hl) (by rw [List.getElem?_eq_getElem hj, e])
      exact ⟨k, hk.to fun c e h he => ⟨h, Heap.off_le _ _ _ _ he⟩⟩
    refine ⟨k + 1, ?_⟩
    rcases o4 with ⟨p0, c0⟩ | ⟨b, sp, hp, hb, hc⟩
    · exact .inl (by omega)
    · exact .inr ⟨b, ys, sp, h.own.fresh _ hp, hp, o2, hb, ⟨by omega, by omega⟩, hk⟩
/-- a list of rows that grows, each a copy -/
structure Og (H B : Heap) (ls : List (List V)) (s : Sl) (ys : List Sl) : Prop where
  own : OwnF H B 1 s (ys.map slv)
  le : ys.length ≤ ls.length
  done : ∀ (j : Nat) (l : List V) (y : Sl), ls[j]? = some l → ys[j]? = some y → Made H (B.off s) l y
theorem Og.nil {ls : List (List V)} : Og H H ls Sl.nil [] := ⟨OwnF.nil H 1, Nat.zero_le _, fun j l y _ hy => by simp at hy⟩
theorem Made.off {B : Heap} {l : List V} {s t : Sl} (h : Made B H2 l t) (hle : H.le B) (hf : Fresh H s) (hs : ∀ p, s.p = some p → ∃ g, B p.1 = some (true, g)) : Made H (H2.off s) l t := by
  have hne : ∀ c, B c = none → ∀ p, s.p = some p → p.1 ≠ c := fun c hc p hp e => by
    obtain ⟨g, hg⟩ := hs p hp
    rw [e, hc] at hg; cases hg
  refine ⟨Heap.le_off (hle.trans h.le) hf, h.row.le fun c e hc => ?_, ?_⟩
  · obtain ⟨a, b⟩ := Heap.new_inv hc
    exact Heap.new_some (Heap.off_some b (hne c a)) (hle.none a)
  · obtain ⟨k, hk⟩ := h.sp
    exact ⟨k, hk.to fun c e hc he => ⟨hle.none hc, Heap.off_some he (hne c hc)⟩⟩
theorem Og.step {B B2 B4 : Heap} {ls : List (List V)} {s r t : Sl} {ys : List Sl} (h : Og H B ls s ys) (hi : ys.length < ls.length) (hm : Made B B2 ls[ys.length] t) (h4 : OwnF (B2.off s) B4 1 r (ys.map slv ++ [slv t])) : Og H B4 ls r (ys ++ [t]) := by
  have hoff : H.le (B2.off s) := Heap.le_off (h.own.le.trans hm.le) h.own.fresh
  have h34 : (B2.off s).le (B4.off r) := Heap.le_off h4.le h4.fresh
  have h12 : (B.off s).le (B2.off s) := Heap.le_off ((Heap.off_le s B).trans hm.le) (Heap.off_fresh s B)
  refine ⟨?_, by rw [List.length_append]; exact hi, fun j l y hl hy => ?_⟩
  · have e : (ys ++ [t]).map slv = ys.map slv ++ [slv t] := by simp
    rw [e]; exact h4.down hoff
  · by_cases hj : j < ys.length
    · rw [List.getElem?_append_left hj] at hy
      exact (h.done j l y hl hy).up (h12.trans h34)
    · have hjl := (List.getElem?_eq_some_iff.1 hy).1
      rw [List.length_append, List.length_singleton] at hjl
      have hje : j = ys.length := by omega
      subst hje
      rw [List.getElem?_append_right (Nat.le_refl _), Nat.sub_self] at hy
      simp only [List.getElem?_cons_zero, Option.some.injEq] at hy
      rw [List.getElem?_eq_getElem hi] at hl
      have hl := Option.some.inj hl
      subst hy; subst hl
      exact (hm.off h.own.le h.own.fresh fun p hp => h.own.own.mine hp).up h34
/-- rows in order, each once, in memory of their own -/
structure Srt (H H2 : Heap) (ls : List (List V)) (t : Sl) (A : List (Sl × (List V × Nat))) : Prop where
  own : OwnF H H2 1 t (A.map fun e => slv e.1)
  row : ∀ e ∈ A, Made H (H2.off t) e.2.1 e.1
  rep : Rep (fun a b => cmpR a.1 b.1) (fun a => a.2) ls.zipIdx (A.map fun e => e.2)
  few : A.length ≤ ls.length

theorem splice_c {y : TV} : ∀ (xs : List TV) (sp : List Value) (i : Nat), ∃ (xs1 : List TV) (sp1 : List Value), splice (xs.flatMap T_api_Value.c ++ sp) (i * 4) (T_api_Value.c y) = xs1.flatMap T_api_Value.c ++ sp1 ∧ xs1.length = xs.length ∧ ∀ x ∈ xs1, x ∈ xs ∨ x = y
  | [], sp, i => ⟨[], splice sp (i * 4) (T_api_Value.c y), rfl, rfl, fun x hx => by cases hx⟩
  | x :: xs, sp, 0 => ⟨y :: xs, sp, rfl, rfl, fun z hz => by
      rcases List.mem_cons.1 hz with rfl | hz
      · exact .inr rfl
      · exact .inl (List.mem_cons_of_mem _ hz)⟩
  | x :: xs, sp, i + 1 => by
    obtain ⟨xs1, sp1, h1, h2, h3⟩ := splice_c (y := y) xs sp i
    refine ⟨x :: xs1, sp1, ?_, by simp [h2], fun z hz => ?_⟩
    · rw [List.flatMap_cons, List.flatMap_cons, List.append_assoc, List.append_assoc, ← h1]
      have e : (i + 1) * 4 = (T_api_Value.c x).length + i * 4 := by rw [TV.c_len]; omega
      unfold splice
      rw [e, List.take_length_add_append, Nat.add_assoc, List.drop_length_add_append]
      simp only [List.append_assoc]
    · rcases List.mem_cons.1 hz with rfl | hz
      · exact .inl (List.mem_cons_self ..)
      · exact (h3 z hz).imp (List.mem_cons_of_mem _) id
/-- a value written over in a row keeps all rows such -/
theorem Sp.put {b i : Nat} {cs : List Value} {y : TV} (hb : H b = some (true, .row cs)) (hy : y.L.len = 0) : ∀ {k : Nat} {t : Sl}, Sp N H k t → Sp N (H.put b (.row (splice cs (i * 4) (T_api_Value.c y)))) k t
  | 0, t, h => h
  | k + 1, t, .inl h => .inl h
  | k + 1, t, .inr ⟨c, xs, sp, h1, h2, h3, h4, h5, h6⟩ => by
    by_cases hc : c = b
    · subst hc
      rw [h4] at hb
      injection hb with hb; injection hb with _ hb; injection hb with hb
      subst hb
      obtain ⟨xs1, sp1, e1, e2, e3⟩ := splice_c (y := y) xs sp i
      refine .inr ⟨c, xs1, sp1, h1, h2, h3, by rw [Heap.put_same, e1], by rw [e2]; exact h5, fun x hx => ?_⟩
      rcases e3 x hx with hx | rfl
      · exact Sp.put h4 hy (h6 x hx)
      · exact Sp.nil k hy
    · exact .inr ⟨c, xs, sp, h1, h2, h3, by rw [Heap.put_ne _ _ _ hc]; exact h4, h5, fun x hx => Sp.put hb hy (h6 x hx)⟩
end
end Sx
end

noncomputable section
set_option linter.unusedVariables false
set_option linter.unusedSimpArgs false
namespace Sx
open Go Go.Proofs
section
variable {C : Ctx} {H : Heap}
theorem clone_ok {t : Sl} {xs : List TV} {K : Sl → Heap → Prop} (hr : rdsl H t (xs.flatMap T_api_Value.c)) (hl : t.len = xs.length) (h0 : t.len ≠ 0) (hs : t.len ≤ 1000000)
    (k : ∀ b sp cap B, H.le B → B b = none → t.len ≤ cap → K (Sl.of (some (b, 0)) t.len cap) (B.put b (.row (xs.flatMap T_api_Value.c ++ sp)))) : c_slices_Clone_api_Value_api_Value C t K H := by
  apply ad_slices_Clone_api_Value_api_Value
  unfold sh_slices_Clone_api_Value_api_Value
  have hf := flat4 xs
  have hnil : Sl.isNil t = false := by
    rcases hr with h | ⟨hx, p, hp, _⟩
    · rw [h] at hf; simp at hf; omega
    · unfold Sl.isNil; rw [hp]; rfl
  refine ift_neg hnil ?_
  intro b2 n2
  have hle := Heap.le_put n2 (g := .row []) (m := true)
  refine ⟨xs.flatMap T_api_Value.c, rdsl_le hle hr, ?_, [], .inl rfl, ?_, ?_, ?_, ?_, fun hfit => ?_, fun hgrow b cap hb hcap => ?_⟩
  · intro u hu
    obtain ⟨x, _, hx⟩ := List.mem_flatMap.1 hu
    simp only [T_api_Value.c, List.mem_cons, List.not_mem_nil, or_false] at hx
    rcases hx with rfl | rfl | rfl | rfl <;> rfl
  · rfl
  · rw [hf, hl]; rfl
  · show (0 + t.len) * 56 ≤ _; omega
  · show 0 + t.len ≤ _; omega
  · exfalso
    have : 0 + t.len ≤ 0 := hfit
    omega
  · have e : (0 : Nat) + t.len = t.len := Nat.zero_add _
    have hc2 : 0 + t.len ≤ cap := hcap
    have := k b (zeros (T_api_Value.c T_api_Value.zero) (cap - (0 + t.len))) cap _ hle hb (by omega)
    show K (Sl.of (some (b, 0)) (0 + t.len) cap) _
    rw [e] at this ⊢
    exact this
theorem own_ok {A : Heap} {l : List V} {t : Sl} {H : Heap} {K : Sl → Heap → Prop} (hv : VRow A t l) (hle : A.le H) (hz : vsizes l ≤ 1000000) (k : ∀ t2 H2, Made H H2 l t2 → K t2 H2) : c_value_own C t K H := by
  have main : ∀ v : V, ∀ (A : Heap) (t : Sl) (H : Heap) (K : Sl → Heap → Prop), VRow A t v.l → A.le H → vsizes v.l ≤ 1000000 → (∀ t2 H2, Made H H2 v.l t2 → K t2 H2) → c_value_own C t K H := by
    refine fun v => V.rec_ (P := fun v => ∀ (A : Heap) (t : Sl) (H : Heap) (K : Sl → Heap → Prop), VRow A t v.l → A.le H → vsizes v.l ≤ 1000000 → (∀ t2 H2, Made H H2 v.l t2 → K t2 H2) → c_value_own C t K H) (fun v ih => ?_) v
    intro A t H K hv hle hz k
    apply ad_value_own
    unfold sh_value_own
    have hl := hv.len
    have hll := vsizes_len v.l
    refine ift.of (fun h => ?_) (fun h => ?_)
    · simp only [beq_iff_eq] at h
      have : v.l = [] := List.length_eq_zero_iff.1 (by omega)
      refine k _ _ ?_
      rw [this]; exact Made.nil rfl
    · simp only [beq_eq_false_iff_ne] at h
      obtain ⟨xs, r1, r2, r3⟩ := hv
      refine clone_ok (rdsl_le hle r1) r2 (by omega) (by omega) fun b sp cap B hB nb hcap => ?_
      rw [hl] at hcap ⊢
      refine ⟨fun x D => ∃ (i : Nat) (ys : List TV) (E : Heap), x = (i : Int) ∧ i ≤ v.l.length ∧ D = E.put b (.row (ys.flatMap T_api_Value.c ++ sp)) ∧ Ow A H E b i v.l xs ys, fun x _ => v.l.length - x.toNat,
        ⟨0, xs, B, rfl, Nat.zero_le _, rfl, hB, hle.trans hB, nb, by omega, by omega, r3, fun _ _ => rfl, fun j v x hj => by omega⟩, ?_⟩
      rintro _ D ⟨i, ys, E, rfl, hi, rfl, ho⟩
      have hlen : (Sl.of (some (b, 0)) v.l.length cap).len = v.l.length := rfl
      refine ift.of (fun h => ?_) (fun h => ?_)
      · have hlt : i < v.l.length := by have := of_decide_eq_true h; omega
        have hi2 : i < ys.length := by rw [ho.len]; exact hlt
        have hyx := ho.rest i (Nat.le_refl _)
        rw [List.getElem?_eq_getElem hi2] at hyx
        have hold := VIs_iff.1 (ho.old.get i _ _ (List.getElem?_eq_getElem hlt) hyx.symm)
        have hmem := List.getElem_mem hlt
        have hsz := vsize_mem hmem
        have hszl : vsize v.l[i] = vsizes v.l[i].l + 1 := by cases v.l[i]; rfl
        have e0 : 0 + ((i : Int).toNat) * 4 + 3 = i * 4 + 3 := by omega
        have hf := flat4 ys
        refine ⟨(b, 0), rfl, rfl, by omega, by rw [hlen]; omega, ?_⟩
        refine ⟨ys[i].L, ?_, ?_⟩
        · show rd _ (b, 0 + ((i : Int).toNat) * 4 + 3) = _
          rw [e0, rd_same, List.getElem?_append_left (by omega)]
          exact flat_get T_api_Value.c 4 TV.c_len ys i _ (List.getElem?_eq_getElem hi2) 3 _ rfl
        · refine ih _ hmem A _ _ _ hold.2.2.2 (ho.ale.trans (Heap.le_put ho.nb)) (by omega) fun t2 H2 hm => ?_
          obtain ⟨s1, s2⟩ := ho.step hlt hi2 hm
          refine ⟨(b, 0), rfl, rfl, by omega, by rw [hlen]; omega, ?_⟩
          refine ⟨_, hm.le _ _ (Heap.put_same ..), ?_, ?_⟩
          · show 0 + ((i : Int).toNat) * 4 + 3 < _
            rw [e0, List.length_append, hf]; omega
          · show _ ∧ _
            have e1 : (b, 0 + ((i : Int).toNat) * 4 + 3).2 = i * 4 + 3 := e0
            rw [w_i64 (by omega) (by omega)]
            refine ⟨⟨i + 1, _, _, by omega, by omega, ?_, s1⟩, by first | omega | (dsimp only; omega)⟩
            rw [← s2, ← set_L ys i hi2]
            show H2.put b (.row ((List.flatMap T_api_Value.c ys ++ sp).set (0 + ((i : Int).toNat) * 4 + 3) (slv t2))) = _
            rw [e0]
      · have hie : i = v.l.length := by have := of_decide_eq_false h; omega
        refine k _ _ ?_
        have := ho.fin (sp := sp) (cap := cap) hie (ho.le.none ho.nb) (by omega)
        rw [hie] at this
        exact this
  exact main (.mk 0 0 [] l) A t H K hv hle hz k
end
end Sx
end

noncomputable section
set_option linter.unusedVariables false
set_option linter.unusedSimpArgs false
namespace Sx.SR
open Go Go.Proofs Sx
abbrev TE := Sl
abbrev cE (x : TE) : List Value := [slv x]
abbrev argE (x : TE) : Value := slv x
abbrev LDX (H : Heap) (p : Nat × Nat) (K : TE → Prop) : Prop := ldL H p K
def enc {G : Type} (e : TE × G) : List Value := cE e.1
section
variable {G : Type}
def arr (H0 : Heap) (b : Nat) (sp : List Value) (L : List (TE × G)) : Heap := H0.put b (.row (L.flatMap enc ++ sp))
structure Sls (s : Sl) (b n : Nat) : Prop where
  p : s.p = some (b, 0)
  x : s.x = none
  len : s.len = n
  small : n ≤ 140737488355328
theorem enc_len (e : TE × G) : (enc e).length = 1 := rfl
theorem flat_len : ∀ A : List (TE × G), (A.flatMap enc).length = A.length * 1
  | [] => rfl
  | e :: A => by rw [List.flatMap_cons, List.length_append, enc_len, flat_len A, List.length_cons]; omega
theorem cell_at {A R : List (TE × G)} {x : TE × G} {sp : List Value} {j : Nat} (hj : j < 1) : ((A ++ x :: R).flatMap enc ++ sp)[A.length * 1 + j]? = (cE x.1)[j]? := by
  have hl := flat_len A
  have e : (cE x.1).length = 1 := rfl
  have h : (A ++ x :: R).flatMap enc ++ sp = A.flatMap enc ++ (cE x.1 ++ (R.flatMap enc ++ sp)) := by
    rw [List.flatMap_append, List.flatMap_cons]; simp only [enc, List.append_assoc]
  rw [h, List.getElem?_append_right (by omega), List.getElem?_append_left (by omega)]
  congr 1; omega
variable {H0 R : Heap} {b n : Nat} {sp : List Value} {s : Sl} {C : Ctx} {L A D : List (TE × G)} {x y : TE × G} {i : Int}
theorem ixp {K : Nat × Nat → Prop} {k : Nat} (hs : Sls s b n) (hi : i = (k : Int)) (hk : k < n) (h : K (b, 0)) : ixa s i K :=
  ⟨(b, 0), hs.p, hs.x, by omega, by rw [hs.len]; omega, h⟩
theorem ldx {K : TE → Prop} (hL : L = A ++ x :: D) (hi : i = (A.length : Int)) (k : K x.1) : LDX (arr H0 b sp L) ((b, 0).1, (b, 0).2 + i.toNat * 1) K := by
  subst hL; subst hi
  rw [Int.toNat_natCast]
  refine ⟨x.1, ?_, k⟩
  have := cell_at (A := A) (R := D) (x := x) (sp := sp) (j := 0) (by omega)
  rw [Nat.add_zero] at this
  show rd (arr H0 b sp (A ++ x :: D)) (b, 0 + A.length * 1) = _
  unfold arr
  simp only [rd, Heap.put_same, GO.cells?, Nat.zero_add, this]; rfl
theorem stx0 {K : Heap → Prop} (hL : L = A ++ x :: D) (hi : i = (A.length : Int)) (k : K (arr H0 b sp (A ++ y :: D))) : stT ((b, 0).1, (b, 0).2 + i.toNat * 1) (cE y.1) K (arr H0 b sp L) := by
  subst hL; subst hi
  rw [Int.toNat_natCast]
  have hl := flat_len A
  have e2 : (cE x.1).length = 1 := rfl
  have e3 : (cE y.1).length = 1 := rfl
  have h : ∀ z : TE × G, (A ++ z :: D).flatMap enc ++ sp = A.flatMap enc ++ (cE z.1 ++ (D.flatMap enc ++ sp)) := fun z => by
    rw [List.flatMap_append, List.flatMap_cons]; simp only [enc, List.append_assoc]
  refine ⟨_, Heap.put_same .., ?_, ?_⟩
  · rw [h]; simp only [List.length_append, hl, e2]; show 0 + A.length * 1 + (cE y.1).length ≤ _; rw [e3]; omega
  · have e : (arr H0 b sp (A ++ x :: D)).put b (.row (splice ((A ++ x :: D).flatMap enc ++ sp) (0 + A.length * 1) (cE y.1))) = arr H0 b sp (A ++ y :: D) := by
      unfold arr
      rw [Heap.put_put, h x, h y, Nat.zero_add]
      congr 2
      unfold splice
      rw [← hl, List.take_left, ← List.drop_drop, List.drop_left, e3, ← e2, List.drop_left, List.append_assoc]
    exact e.symm ▸ k
theorem st_of {p : Nat × Nat} {v : Value} {K : Heap → Prop} {H : Heap} (h : stT p [v] K H) : Sx.st p v K H := by
  obtain ⟨c, h1, h2, h3⟩ := h
  have h4 : p.2 < c.length := by simp at h2; omega
  exact ⟨c, h1, h4, by rw [← splice_one h4]; exact h3⟩
theorem stx {K : Heap → Prop} (hL : L = A ++ x :: D) (hi : i = (A.length : Int)) (k : K (arr H0 b sp (A ++ y :: D))) : Sx.st ((b, 0).1, (b, 0).2 + i.toNat * 1) (slv y.1) K (arr H0 b sp L) := st_of (stx0 hL hi k)
theorem nole (B : Heap) : Heap.le (fun _ => none) B := fun _ _ h => by cases h
/-- data[lo], data[hi] = data[hi], data[lo] -/
theorem swp1 {B : List (TE × G)} {lo hi : Int} {J : Unit → Heap → Prop} (hs : Sls s b n) (hn : A.length + 1 + B.length < n) (hL : L = A ++ x :: (B ++ y :: D)) (hlo : lo = (A.length : Int)) (hhi : hi = ((A.length + 1 + B.length : Nat) : Int)) (k : J () (arr H0 b sp (A ++ y :: (B ++ x :: D)))) :
    dr (arr H0 b sp L) fun Hs => ixa s hi fun p => ixa s lo fun q =>
      (LDX (arr H0 b sp L) (p.1, p.2 + hi.toNat * 1) fun u => Heap.le Hs (arr H0 b sp L) ∧ LDX (arr H0 b sp L) (q.1, q.2 + lo.toNat * 1) fun v => Heap.le Hs (arr H0 b sp L) ∧
        ixa s lo fun p27 => Sx.st (p27.1, p27.2 + lo.toNat * 1) (slv u)  (fun H33 => Heap.le Hs H33 ∧ ixa s hi fun p34 => Sx.st (p34.1, p34.2 + hi.toNat * 1) (slv v)  (fun H39 => J () H39) H33) (arr H0 b sp L)) ∧
      (LDX (arr H0 b sp L) (q.1, q.2 + lo.toNat * 1) fun v => Heap.le Hs (arr H0 b sp L) ∧ LDX (arr H0 b sp L) (p.1, p.2 + hi.toNat * 1) fun u => Heap.le Hs (arr H0 b sp L) ∧
        ixa s lo fun p27 => Sx.st (p27.1, p27.2 + lo.toNat * 1) (slv u)  (fun H33 => Heap.le Hs H33 ∧ ixa s hi fun p34 => Sx.st (p34.1, p34.2 + hi.toNat * 1) (slv v)  (fun H39 => J () H39) H33) (arr H0 b sp L)) := by
  have e : L = (A ++ x :: B) ++ y :: D := by rw [hL]; simp
  have e' : A ++ y :: (B ++ y :: D) = (A ++ y :: B) ++ y :: D := by simp
  have hh : hi = (((A ++ x :: B).length : Nat) : Int) := by rw [hhi]; simp; omega
  have hh' : hi = (((A ++ y :: B).length : Nat) : Int) := by rw [hhi]; simp; omega
  have k' : J () (arr H0 b sp ((A ++ y :: B) ++ x :: D)) := by simpa using k
  have fin : ixa s lo fun p27 => (fun (u v : TE) => Sx.st (p27.1, p27.2 + lo.toNat * 1) (slv u)  (fun H33 => Heap.le (fun _ => none) H33 ∧ ixa s hi fun p34 => Sx.st (p34.1, p34.2 + hi.toNat * 1) (slv v)  (fun H39 => J () H39) H33) (arr H0 b sp L)) y.1 x.1 :=
    ixp hs hlo (by omega) (stx hL hlo ⟨nole _, ixp hs hhi (by omega) (stx e' hh' k')⟩)
  exact ⟨fun _ => none, nole _, ixp hs hhi (by omega) (ixp hs hlo (by omega) ⟨ldx e hh ⟨nole _, ldx hL hlo ⟨nole _, fin⟩⟩, ldx hL hlo ⟨nole _, ldx e hh ⟨nole _, fin⟩⟩⟩)⟩
/-- data[hi], data[lo] = data[lo], data[hi] -/
theorem swp2 {B : List (TE × G)} {lo hi : Int} {J : Unit → Heap → Prop} (hs : Sls s b n) (hn : A.length + 1 + B.length < n) (hL : L = A ++ x :: (B ++ y :: D)) (hlo : lo = (A.length : Int)) (hhi : hi = ((A.length + 1 + B.length : Nat) : Int)) (k : J () (arr H0 b sp (A ++ y :: (B ++ x :: D)))) :
    dr (arr H0 b sp L) fun Hs => ixa s lo fun p => ixa s hi fun q =>
      (LDX (arr H0 b sp L) (p.1, p.2 + lo.toNat * 1) fun u => Heap.le Hs (arr H0 b sp L) ∧ LDX (arr H0 b sp L) (q.1, q.2 + hi.toNat * 1) fun v => Heap.le Hs (arr H0 b sp L) ∧
        ixa s hi fun p27 => Sx.st (p27.1, p27.2 + hi.toNat * 1) (slv u)  (fun H33 => Heap.le Hs H33 ∧ ixa s lo fun p34 => Sx.st (p34.1, p34.2 + lo.toNat * 1) (slv v)  (fun H39 => J () H39) H33) (arr H0 b sp L)) ∧
      (LDX (arr H0 b sp L) (q.1, q.2 + hi.toNat * 1) fun v => Heap.le Hs (arr H0 b sp L) ∧ LDX (arr H0 b sp L) (p.1, p.2 + lo.toNat * 1) fun u => Heap.le Hs (arr H0 b sp L) ∧
        ixa s hi fun p27 => Sx.st (p27.1, p27.2 + hi.toNat * 1) (slv u)  (fun H33 => Heap.le Hs H33 ∧ ixa s lo fun p34 => Sx.st (p34.1, p34.2 + lo.toNat * 1) (slv v)  (fun H39 => J () H39) H33) (arr H0 b sp L)) := by
  have e : L = (A ++ x :: B) ++ y :: D := by rw [hL]; simp
  have e' : (A ++ x :: B) ++ x :: D = A ++ x :: (B ++ x :: D) := by simp
  have hh : hi = (((A ++ x :: B).length : Nat) : Int) := by rw [hhi]; simp; omega
  have fin : ixa s hi fun p27 => (fun (u v : TE) => Sx.st (p27.1, p27.2 + hi.toNat * 1) (slv u)  (fun H33 => Heap.le (fun _ => none) H33 ∧ ixa s lo fun p34 => Sx.st (p34.1, p34.2 + lo.toNat * 1) (slv v)  (fun H39 => J () H39) H33) (arr H0 b sp L)) x.1 y.1 :=
    ixp hs hhi (by omega) (stx e hh ⟨nole _, ixp hs hlo (by omega) (stx e' hlo k)⟩)
  exact ⟨fun _ => none, nole _, ixp hs hlo (by omega) (ixp hs hhi (by omega) ⟨ldx hL hlo ⟨nole _, ldx e hh ⟨nole _, fin⟩⟩, ldx e hh ⟨nole _, ldx hL hlo ⟨nole _, fin⟩⟩⟩)⟩

/-- what compares -/
structure CmpF (C : Ctx) (R : Heap) (f : Value) (P : TE × G → Prop) (κ : TE × G → TE × G → Int) : Prop where
  ok : ∀ A : Heap, R.le A → ∀ x y, P x → P y → ∀ Φ : Value → Heap → Prop, Φ (.int .i64 (κ x y)) A → callU Tryd.prog C f [argE x.1, argE y.1] A Φ
/-- where it is sorted -/
structure Where (C : Ctx) (H0 R : Heap) (s : Sl) (b n : Nat) (f : Value) (P : TE × G → Prop) (κ : TE × G → TE × G → Int) : Prop where
  s : Sls s b n
  le : R.le H0
  rb : R b = none
  f : CmpF C R f P κ
  lin : Lin κ P
variable {f : Value} {P : TE × G → Prop} {κ : TE × G → TE × G → Int} {ι : TE × G → Nat}
theorem Where.arr (h : Where C H0 R s b n f P κ) (sp : List Value) (L : List (TE × G)) : R.le (arr H0 b sp L) := fun z e hz => by
  have : z ≠ b := fun e' => by rw [e', h.rb] at hz; cases hz
  unfold SR.arr
  rw [Heap.put_ne _ _ _ this]; exact h.le _ _ hz
theorem cmp0 {A2 D2 : List (TE × G)} {j : Int} {Ψ : Int → Heap → Prop} (h : Where C H0 R s b n f P κ) (hl : L.length = n) (h1 : L = A ++ x :: D) (hi : i = (A.length : Int)) (h2 : L = A2 ++ y :: D2) (hj : j = (A2.length : Int)) (hx : P x) (hy : P y) (k : Ψ (κ x y) (arr H0 b sp L)) :
    ixa s i fun p => LDX (arr H0 b sp L) (p.1, p.2 + i.toNat * 1) fun u => ixa s j fun q => LDX (arr H0 b sp L) (q.1, q.2 + j.toNat * 1) fun v =>
      callU Tryd.prog C f [argE u, argE v] (arr H0 b sp L) (fun v H => ∃ r : Int, v = .int .i64 r ∧ Heap.le (arr H0 b sp L) H ∧ Ψ r H) := by
  have l1 : A.length < n := by rw [← hl, h1]; simp
  have l2 : A2.length < n := by rw [← hl, h2]; simp
  exact ixp h.s hi l1 (ldx h1 hi (ixp h.s hj l2 (ldx h2 hj (h.f.ok _ (h.arr sp L) x y hx hy _ ⟨_, rfl, Heap.le.refl _, k⟩))))

theorem ins_ok {X : List (TE × G)} {a e : Int} {K : Heap → Prop} (h : Where C H0 R s b n f P κ) (ha : a = (A.length : Int)) (he : e = ((A.length + X.length : Nat) : Int)) (hn : A.length + X.length + D.length = n) (hP : ∀ x ∈ X, P x) (hι : X.Pairwise fun x y => ι x < ι y)
    (k : ∀ Z : List (TE × G), Z.Perm X → Z.Pairwise (Bf κ ι) → K (arr H0 b sp (A ++ Z ++ D))) : c_slices_insertionSortCmpFunc_api_Value C s a e f K (arr H0 b sp (A ++ X ++ D)) := by
  have hsm := h.s.small
  subst ha; subst he
  apply ad_slices_insertionSortCmpFunc_api_Value
  unfold sh_slices_insertionSortCmpFunc_api_Value
  rw [w_i64 (by omega) (by omega)]
  by_cases hX : X = []
  · subst hX
    refine ⟨fun x B => x = (A.length : Int) + 1 ∧ B = arr H0 b sp (A ++ [] ++ D), fun _ _ => 0, ⟨rfl, rfl⟩, ?_⟩
    rintro x B ⟨rfl, rfl⟩
    exact ift_neg (decide_eq_false (by simp; omega)) (k [] (.refl _) .nil)
  obtain ⟨x0, X', rfl⟩ := List.exists_cons_of_ne_nil hX
  refine ⟨fun x B => ∃ Z Y0 Y : List (TE × G), x0 :: X' = Y0 ++ Y ∧ Z.Perm Y0 ∧ Z.Pairwise (Bf κ ι) ∧ 1 ≤ Z.length ∧ x = ((A.length + Z.length : Nat) : Int) ∧ B = arr H0 b sp (A ++ Z ++ Y ++ D), fun x _ => A.length + (x0 :: X').length - x.toNat,
    ⟨[x0], [x0], X', rfl, .refl _, List.pairwise_singleton _ _, by simp, by simp, by simp⟩, ?_⟩
  rintro x B ⟨Z, Y0, Y, hX, hp, hz, h1, rfl, rfl⟩
  have hpl := hp.length_eq
  have hxl : (x0 :: X').length = Y0.length + Y.length := by rw [hX, List.length_append]
  have hιY : Y0.Pairwise (fun x y => ι x < ι y) ∧ Y.Pairwise (fun x y => ι x < ι y) ∧ ∀ x ∈ Y0, ∀ y ∈ Y, ι x < ι y := by rw [hX] at hι; exact List.pairwise_append.1 hι
  refine ift.of (fun hc => ?_) (fun hc => ?_)
  · have hc := of_decide_eq_true hc
    cases Y with
    | nil => simp only [List.length_nil] at hxl; omega
    | cons y Y' =>
    have hPZ : ∀ z ∈ Z, P z := fun z hz => hP z (by rw [hX]; exact List.mem_append_left _ (hp.mem_iff.1 hz))
    have hPy : P y := hP y (by rw [hX]; simp)
    have hιz : ∀ z ∈ Z, ι z < ι y := fun z hz => hιY.2.2 z (hp.mem_iff.1 hz) y (List.mem_cons_self ..)
    refine ⟨fun j B => ∃ Z1 Z2 : List (TE × G), Z = Z1 ++ Z2 ∧ (∀ z ∈ Z2, κ y z < 0) ∧ j = ((A.length + Z1.length : Nat) : Int) ∧ B = arr H0 b sp (A ++ Z1 ++ y :: (Z2 ++ Y' ++ D)), fun j _ => j.toNat,
      ⟨Z, [], by simp, fun z hz => (by cases hz), rfl, by simp⟩, ?_⟩
    rintro j B ⟨Z1, Z2, hZ, hy2, rfl, rfl⟩
    have hZl : Z.length = Z1.length + Z2.length := by rw [hZ, List.length_append]
    simp only [List.length_cons] at hxl hn
    refine ⟨fun c B => B = arr H0 b sp (A ++ Z1 ++ y :: (Z2 ++ Y' ++ D)) ∧ (c = true → ∃ Z1' z, Z1 = Z1' ++ [z] ∧ κ y z < 0) ∧ (c = false → Z1 = [] ∨ ∃ Z1' z, Z1 = Z1' ++ [z] ∧ ¬ κ y z < 0), ⟨_, Heap.le.refl _, ift.of (fun hj => ?_) (fun hj => ?_)⟩, ?_⟩
    · have hj := of_decide_eq_true hj
      have hne : Z1 ≠ [] := fun e => by subst e; simp at hj
      obtain ⟨Z1', z, rfl⟩ := snoc_of hne
      have hzl1 : (Z1' ++ [z]).length = Z1'.length + 1 := by simp
      rw [hzl1] at hZl
      have ew : w .i64 (((A.length + (Z1' ++ [z]).length : Nat) : Int) - 1) = ((A.length + Z1'.length : Nat) : Int) := by
        rw [hzl1, w_i64 (by omega) (by omega)]; omega
      rw [ew]
      refine cmp0 h ?_ (A := A ++ (Z1' ++ [z])) (x := y) (D := Z2 ++ Y' ++ D) rfl (by simp) (A2 := A ++ Z1') (y := z) (D2 := y :: (Z2 ++ Y' ++ D)) (by simp) (by simp) hPy (hPZ z (by rw [hZ]; simp)) ⟨rfl, fun hd => ⟨_, _, rfl, of_decide_eq_true hd⟩, fun hd => .inr ⟨_, _, rfl, of_decide_eq_false hd⟩⟩
      simp only [List.length_append, List.length_cons, List.length_nil] at hZl ⊢
      omega
    · have hj := of_decide_eq_false hj
      have hz1 : Z1 = [] := List.length_eq_zero_iff.1 (by omega)
      exact ⟨rfl, fun hd => (by cases hd), fun _ => .inl hz1⟩
    · rintro c B ⟨rfl, ht, hff⟩
      refine ift.of (fun hc => ?_) (fun hc => ?_)
      · obtain ⟨Z1', z, rfl, hlt⟩ := ht hc
        have hzl1 : (Z1' ++ [z]).length = Z1'.length + 1 := by simp
        rw [hzl1] at hZl
        have ew : w .i64 (((A.length + (Z1' ++ [z]).length : Nat) : Int) - 1) = ((A.length + Z1'.length : Nat) : Int) := by
          rw [hzl1, w_i64 (by omega) (by omega)]; omega
        rw [ew]
        refine ⟨fun _ B => B = arr H0 b sp ((A ++ Z1') ++ y :: ([] ++ z :: (Z2 ++ Y' ++ D))), ?_, ?_⟩
        · show dr _ _
          refine swp2 (J := fun _ B => B = arr H0 b sp ((A ++ Z1') ++ y :: ([] ++ z :: (Z2 ++ Y' ++ D)))) h.s (A := A ++ Z1') (x := z) (B := []) (y := y) (D := Z2 ++ Y' ++ D) ?_ ?_ ?_ ?_ ?_
          · simp only [List.length_append, List.length_nil]; omega
          · simp
          · simp
          · simp; omega
          · rfl
        rintro _ B rfl
        refine ⟨⟨Z1', z :: Z2, by rw [hZ]; simp, fun u hu => ?_, rfl, by simp⟩, ?_⟩
        · rcases List.mem_cons.1 hu with rfl | hu
          · exact hlt
          · exact hy2 u hu
        · simp only [List.length_append, List.length_singleton]; omega
      · rw [w_i64 (by omega) (by omega)]
        have hz' : (Z1 ++ Z2).Pairwise (Bf κ ι) := hZ ▸ hz
        refine ⟨⟨Z1 ++ y :: Z2, Y0 ++ [y], Y', by rw [hX]; simp, ?_, ?_, by simp; omega, by simp; omega, by simp⟩, by simp only [List.length_cons]; omega⟩
        · have : (Z1 ++ y :: Z2).Perm (y :: (Z1 ++ Z2)) := List.perm_middle
          refine this.trans ?_
          rw [← hZ]
          exact (List.Perm.cons y hp).trans (List.perm_append_comm (l₁ := [y]))
        · refine ins2 h.lin hz' hPy (fun x hx => hPZ x (by rw [hZ]; exact hx)) ?_ hy2 (fun x hx => hιz x (by rw [hZ]; exact hx))
          rcases hff hc with rfl | ⟨Z1', z, rfl, hnl⟩
          · intro x hx; cases hx
          · intro x hx
            rcases List.mem_append.1 hx with hx | hx
            · have hm1 : x ∈ Z := by rw [hZ]; simp [hx]
              have hm2 : z ∈ Z := by rw [hZ]; simp
              have hb : Bf κ ι x z := (List.pairwise_append.1 (List.pairwise_append.1 hz').1).2.2 x hx z (List.mem_singleton.2 rfl)
              have a1 := h.lin.anti y z hPy (hPZ z hm2)
              have a2 := h.lin.anti y x hPy (hPZ x hm1)
              have := (h.lin.tr x z y (hPZ x hm1) (hPZ z hm2) hPy hb.le (by omega)).1
              omega
            · rw [List.mem_singleton.1 hx]; exact hnl
  · have hc := of_decide_eq_false hc
    simp only [List.length_cons] at hxl hc
    have hY : Y = [] := List.length_eq_zero_iff.1 (by omega)
    subst hY
    rw [List.append_nil] at hX ⊢
    exact k Z (hX ▸ hp) hz
theorem swap_ok {X M Y : List (TE × G)} {a c m : Int} {K : Heap → Prop} (h : Sls s b n) (hn : A.length + X.length + M.length + Y.length + D.length = n) (hxy : X.length = Y.length) (ha : a = (A.length : Int)) (hc : c = ((A.length + X.length + M.length : Nat) : Int)) (hm : m = (X.length : Int))
    (k : K (arr H0 b sp (A ++ Y ++ M ++ X ++ D))) : c_slices_swapRangeCmpFunc_api_Value C s a c m f K (arr H0 b sp (A ++ X ++ M ++ Y ++ D)) := by
  have hsm := h.small
  subst ha; subst hc; subst hm
  apply ad_slices_swapRangeCmpFunc_api_Value
  unfold sh_slices_swapRangeCmpFunc_api_Value
  refine ⟨fun x B => ∃ i : Nat, x = (i : Int) ∧ i ≤ X.length ∧ B = arr H0 b sp (A ++ (Y.take i ++ X.drop i) ++ M ++ (X.take i ++ Y.drop i) ++ D), fun x _ => X.length - x.toNat, ⟨0, rfl, Nat.zero_le _, by simp⟩, ?_⟩
  rintro x B ⟨i, rfl, hi, rfl⟩
  refine ift.of (fun hlt => ?_) (fun hlt => ?_)
  · have hlt : i < X.length := by have := of_decide_eq_true hlt; omega
    have hlt2 : i < Y.length := by omega
    have w1 : w .i64 (((A.length + X.length + M.length : Nat) : Int) + (i : Int)) = ((A.length + X.length + M.length + i : Nat) : Int) := by rw [w_i64 (by omega) (by omega)]; omega
    have w2 : w .i64 ((A.length : Int) + (i : Int)) = ((A.length + i : Nat) : Int) := by rw [w_i64 (by omega) (by omega)]; omega
    rw [w1, w2]
    have dx := List.drop_eq_getElem_cons hlt
    have dy := List.drop_eq_getElem_cons hlt2
    have tx : X.take (i + 1) = X.take i ++ [X[i]] := by rw [List.take_add_one, List.getElem?_eq_getElem hlt]; rfl
    have ty : Y.take (i + 1) = Y.take i ++ [Y[i]] := by rw [List.take_add_one, List.getElem?_eq_getElem hlt2]; rfl
    have l1 : (Y.take i).length = i := by rw [List.length_take]; omega
    have l2 : (X.take i).length = i := by rw [List.length_take]; omega
    have l3 : (X.drop (i + 1)).length = X.length - (i + 1) := List.length_drop ..
    have l4 : (Y.drop (i + 1)).length = Y.length - (i + 1) := List.length_drop ..
    refine ⟨fun _ B => B = arr H0 b sp ((A ++ Y.take i) ++ Y[i] :: ((X.drop (i + 1) ++ M ++ X.take i) ++ X[i] :: (Y.drop (i + 1) ++ D))), ?_, ?_⟩
    · show dr _ _
      refine swp1 (J := fun _ B => B = arr H0 b sp ((A ++ Y.take i) ++ Y[i] :: ((X.drop (i + 1) ++ M ++ X.take i) ++ X[i] :: (Y.drop (i + 1) ++ D)))) h (A := A ++ Y.take i) (x := X[i]) (y := Y[i]) (B := X.drop (i + 1) ++ M ++ X.take i) (D := Y.drop (i + 1) ++ D) ?_ ?_ ?_ ?_ rfl
      · simp only [List.length_append, l1, l2, l3]; omega
      · rw [dx, dy]; simp only [List.append_assoc, List.cons_append]
      · simp only [List.length_append, l1]
      · simp only [List.length_append, l1, l2, l3]; omega
    rintro _ B rfl
    rw [w_i64 (by omega) (by omega)]
    refine ⟨⟨i + 1, by omega, by omega, ?_⟩, by first | omega | (dsimp only; omega)⟩
    rw [tx, ty]; simp only [List.append_assoc, List.cons_append, List.nil_append, List.singleton_append]
  · have hie : i = X.length := by have := of_decide_eq_false hlt; omega
    subst hie
    rw [List.take_length, List.drop_length, hxy, List.take_length, List.drop_length, List.append_nil, List.append_nil]
    exact k
theorem rot_ok {X Y : List (TE × G)} {a m e : Int} {K : Heap → Prop} (h : Sls s b n) (hn : A.length + X.length + Y.length + D.length = n) (hX : X ≠ []) (hY : Y ≠ []) (ha : a = (A.length : Int)) (hm : m = ((A.length + X.length : Nat) : Int)) (he : e = ((A.length + X.length + Y.length : Nat) : Int))
    (k : K (arr H0 b sp (A ++ Y ++ X ++ D))) : c_slices_rotateCmpFunc_api_Value C s a m e f K (arr H0 b sp (A ++ X ++ Y ++ D)) := by
  have hsm := h.small
  have px : 0 < X.length := List.length_pos_iff.2 hX
  have py : 0 < Y.length := List.length_pos_iff.2 hY
  subst ha; subst hm; subst he
  apply ad_slices_rotateCmpFunc_api_Value
  unfold sh_slices_rotateCmpFunc_api_Value
  have w1 : w .i64 (((A.length + X.length : Nat) : Int) - (A.length : Int)) = ((X.length : Nat) : Int) := by rw [w_i64 (by omega) (by omega)]; omega
  have w2 : w .i64 (((A.length + X.length + Y.length : Nat) : Int) - ((A.length + X.length : Nat) : Int)) = ((Y.length : Nat) : Int) := by rw [w_i64 (by omega) (by omega)]; omega
  rw [w1, w2]
  refine ⟨fun x B => ∃ P U V S : List (TE × G), x = (((U.length : Nat) : Int), ((V.length : Nat) : Int)) ∧ B = arr H0 b sp (P ++ U ++ V ++ S) ∧ A ++ Y ++ X ++ D = P ++ V ++ U ++ S ∧ P.length + U.length = A.length + X.length ∧ P.length + U.length + V.length + S.length = n ∧ 0 < U.length ∧ 0 < V.length,
    fun x _ => x.1.toNat + x.2.toNat, ⟨A, X, Y, D, rfl, rfl, rfl, rfl, by omega, px, py⟩, ?_⟩
  rintro x B ⟨P, U, V, S, rfl, rfl, hT, hl, hl2, pu, pv⟩
  have w3 : w .i64 (((A.length + X.length : Nat) : Int) - ((U.length : Nat) : Int)) = ((P.length : Nat) : Int) := by rw [w_i64 (by omega) (by omega)]; omega
  dsimp only
  rw [w3]
  refine ift.of (fun hne => ?_) (fun heq => ?_)
  · have hne : U.length ≠ V.length := fun e => by rw [e] at hne; simp at hne
    refine ift.of (fun hgt => ?_) (fun hgt => ?_)
    · have hgt : V.length < U.length := by have := of_decide_eq_true hgt; omega
      -- U = U1 ++ U2
      have hU : U = U.take V.length ++ U.drop V.length := (List.take_append_drop ..).symm
      have l1 : (U.take V.length).length = V.length := by rw [List.length_take]; omega
      have l2 : (U.drop V.length).length = U.length - V.length := List.length_drop ..
      generalize U.take V.length = U1 at *
      generalize U.drop V.length = U2 at *
      subst hU
      simp only [List.length_append] at hl hl2 pu hne hgt
      have e0 : P ++ (U1 ++ U2) ++ V ++ S = P ++ U1 ++ U2 ++ V ++ S := by simp only [List.append_assoc]
      rw [e0]
      refine swap_ok h (A := P) (X := U1) (M := U2) (Y := V) (D := S) (by omega) (by omega) rfl (by omega) (by omega) ?_
      rw [w_i64 (by simp only [List.length_append]; omega) (by simp only [List.length_append]; omega)]
      refine ⟨⟨P ++ V, U2, U1, S, ?_, by simp only [List.append_assoc], by rw [hT]; simp only [List.append_assoc], by simp only [List.length_append]; omega, by simp only [List.length_append]; omega, by omega, by omega⟩, ?_⟩
      · simp only [List.length_append, Prod.mk.injEq]; omega
      · simp only [List.length_append]; omega
    · have hgt : U.length < V.length := by have := of_decide_eq_false hgt; omega
      have hV : V = V.take (V.length - U.length) ++ V.drop (V.length - U.length) := (List.take_append_drop ..).symm
      have l1 : (V.take (V.length - U.length)).length = V.length - U.length := by rw [List.length_take]; omega
      have l2 : (V.drop (V.length - U.length)).length = U.length := by rw [List.length_drop]; omega
      have w4 : w .i64 (w .i64 (((A.length + X.length : Nat) : Int) + ((V.length : Nat) : Int)) - ((U.length : Nat) : Int)) = ((P.length + U.length + (V.length - U.length) : Nat) : Int) := by
        rw [w_i64 (x := ((A.length + X.length : Nat) : Int) + ((V.length : Nat) : Int)) (by omega) (by omega), w_i64 (by omega) (by omega)]; omega
      rw [w4]
      generalize V.take (V.length - U.length) = V1 at *
      generalize V.drop (V.length - U.length) = V2 at *
      have l3 : V.length = V1.length + V2.length := by omega
      have e0 : P ++ U ++ V ++ S = P ++ U ++ V1 ++ V2 ++ S := by rw [hV]; simp only [List.append_assoc]
      rw [e0]
      refine swap_ok h (A := P) (X := U) (M := V1) (Y := V2) (D := S) (by omega) (by omega) rfl (by omega) rfl ?_
      rw [w_i64 (by omega) (by omega)]
      refine ⟨⟨P, V2, V1, U ++ S, ?_, by simp only [List.append_assoc], by rw [hT, hV]; simp only [List.append_assoc], by omega, by simp only [List.length_append]; omega, by omega, by omega⟩, ?_⟩
      · simp only [Prod.mk.injEq]; omega
      · first | omega | (dsimp only; omega)
  · have heq : U.length = V.length := by
      have : ((U.length : Nat) : Int) = ((V.length : Nat) : Int) := by simpa using heq
      omega
    have e0 : P ++ U ++ V ++ S = P ++ U ++ [] ++ V ++ S := by simp only [List.append_assoc, List.nil_append]
    rw [e0]
    refine swap_ok h (A := P) (X := U) (M := []) (Y := V) (D := S) (by simp only [List.length_nil]; omega) heq rfl (by simp only [List.length_nil]; omega) rfl ?_
    rw [hT] at k
    simpa only [List.append_assoc, List.nil_append] using k
theorem pr {a b c d : Int} (h1 : a = c) (h2 : b = d) : (a, b) = (c, d) := by rw [h1, h2]
theorem idx_ok {a f x c : Nat} (hc : c < f) (h1 : a + x ≤ 281474976710656) (h2 : f ≤ 281474976710656) : w .i64 (((a + f + (a + x) - 1 : Nat) : Int) - ((a + c : Nat) : Int)) = ((a + x + (f - 1 - c) : Nat) : Int) := by
  have e1 : a + f + (a + x) - 1 = a + x + (f - 1 - c) + (a + c) := by omega
  rw [e1, w_i64 (by omega) (by omega)]; omega
/-- what is found by halving -/
theorem sym_key (h : Where C H0 R s b n f P κ) : ∀ (N : Nat) {X Y A D : List (TE × G)} {a m e : Int} {K : Heap → Prop}, X.length + Y.length ≤ N → X ≠ [] → Y ≠ [] → a = (A.length : Int) → m = ((A.length + X.length : Nat) : Int) → e = ((A.length + X.length + Y.length : Nat) : Int) → A.length + X.length + Y.length + D.length = n →
      (∀ x ∈ X ++ Y, P x) → X.Pairwise (Bf κ ι) → Y.Pairwise (Bf κ ι) → (∀ x ∈ X, ∀ y ∈ Y, ι x < ι y) → (∀ Z : List (TE × G), Z.Perm (X ++ Y) → Z.Pairwise (Bf κ ι) → K (arr H0 b sp (A ++ Z ++ D))) → c_slices_symMergeCmpFunc_api_Value C s a m e f K (arr H0 b sp (A ++ X ++ Y ++ D)) := by
  have hsm := h.s.small
  intro N
  induction N with
  | zero => intro X Y A D a m e K hN hX; have := List.length_pos_iff.2 hX; omega
  | succ N ih =>
  intro X Y A D a m e K hN hX hY ha hm he hn hP sX sY hι k
  have px : 0 < X.length := List.length_pos_iff.2 hX
  have py : 0 < Y.length := List.length_pos_iff.2 hY
  have hPX : ∀ x ∈ X, P x := fun x hx => hP x (List.mem_append_left _ hx)
  have hPY : ∀ y ∈ Y, P y := fun y hy => hP y (List.mem_append_right _ hy)
  subst ha; subst hm; subst he
  apply ad_slices_symMergeCmpFunc_api_Value
  unfold sh_slices_symMergeCmpFunc_api_Value
  have w1 : w .i64 (((A.length + X.length : Nat) : Int) - (A.length : Int)) = ((X.length : Nat) : Int) := by rw [w_i64 (by omega) (by omega)]; omega
  have w2 : w .i64 (((A.length + X.length + Y.length : Nat) : Int) - ((A.length + X.length : Nat) : Int)) = ((Y.length : Nat) : Int) := by rw [w_i64 (by omega) (by omega)]; omega
  rw [w1, w2]
  refine ift.of (fun hone => ?_) (fun hone => ?_)
  · -- one ahead of many
    have hx1 : X.length = 1 := by
      have : ((X.length : Nat) : Int) = 1 := by simpa using hone
      omega
    obtain ⟨x, rfl⟩ := List.length_eq_one_iff.1 hx1
    have hPx : P x := hPX x (List.mem_cons_self ..)
    refine ⟨fun y B => B = arr H0 b sp (A ++ [x] ++ Y ++ D) ∧ ∃ i j : Nat, y = (((A.length + 1 + i : Nat) : Int), ((A.length + 1 + j : Nat) : Int)) ∧ i ≤ j ∧ j ≤ Y.length ∧ (∀ y ∈ Y.take i, κ y x < 0) ∧ (∀ y ∈ Y.drop j, ¬ κ y x < 0), fun y _ => (y.2 - y.1).toNat,
      ⟨rfl, 0, Y.length, by simp, Nat.zero_le _, Nat.le_refl _, fun y hy => by simp at hy, fun y hy => by simp at hy⟩, ?_⟩
    rintro _ B ⟨rfl, i, j, rfl, hij, hj, hlo, hhi⟩
    dsimp only
    refine ift.of (fun hlt => ?_) (fun hlt => ?_)
    · have hlt : i < j := by have := of_decide_eq_true hlt; omega
      rw [half_ok (by omega)]
      have hh : (A.length + 1 + i + (A.length + 1 + j)) / 2 = A.length + 1 + (i + j) / 2 := by omega
      rw [hh]
      have hc1 : i ≤ (i + j) / 2 := by omega
      have hc2 : (i + j) / 2 < j := by omega
      generalize (i + j) / 2 = c at *
      have hcl : c < Y.length := by omega
      have hPc := hPY _ (List.getElem_mem hcl)
      have hpm := pw_mid sY hcl
      have eY := eq_mid hcl
      have lt : (Y.take c).length = c := by rw [List.length_take]; omega
      refine ⟨_, Heap.le.refl _, ?_⟩
      refine cmp0 h (by simp only [List.length_append]; omega) (A := A ++ [x] ++ Y.take c) (x := Y[c]) (D := Y.drop (c + 1) ++ D) ?_ ?_ (A2 := A) (y := x) (D2 := Y ++ D) (by simp) rfl hPc hPx ?_
      · conv => lhs; rw [eY]
        simp only [List.append_assoc, List.cons_append]
      · simp only [List.length_append, List.length_singleton, lt]
      refine ift.of (fun hd => ?_) (fun hd => ?_)
      · have hd := of_decide_eq_true hd
        rw [w_i64 (by omega) (by omega)]
        refine ⟨⟨rfl, c + 1, j, pr (by omega) (by omega), by omega, hj, fun y hy => ?_, hhi⟩, by first | omega | (dsimp only; omega)⟩
        rw [List.take_add_one, List.getElem?_eq_getElem hcl, Option.toList_some] at hy
        rcases List.mem_append.1 hy with hy | hy
        · exact (h.lin.tr y Y[c] x (hPY y (mem_take hy)) hPc hPx (hpm.1 y hy).le (by omega)).2 (.inr hd)
        · rw [List.mem_singleton.1 hy]; exact hd
      · have hd := of_decide_eq_false hd
        refine ⟨⟨rfl, i, c, rfl, hc1, by omega, hlo, fun y hy => ?_⟩, by first | omega | (dsimp only; omega)⟩
        rw [List.drop_eq_getElem_cons hcl] at hy
        rcases List.mem_cons.1 hy with rfl | hy
        · exact hd
        · intro hyx
          have hb := (hpm.2 y hy).le
          exact hd ((h.lin.tr Y[c] y x hPc (hPY y (mem_drop hy)) hPx hb (by omega)).2 (.inr hyx))
    · have hij : i = j := by have := of_decide_eq_false hlt; omega
      subst hij
      have w3 : w .i64 (((A.length + 1 + i : Nat) : Int) - 1) = ((A.length + i : Nat) : Int) := by rw [w_i64 (by omega) (by omega)]; omega
      have hY12 : Y = Y.take i ++ Y.drop i := (List.take_append_drop ..).symm
      have l1 : (Y.take i).length = i := by rw [List.length_take]; omega
      have l2 : (Y.drop i).length = Y.length - i := List.length_drop ..
      have fin : K (arr H0 b sp (A ++ (Y.take i ++ x :: Y.drop i) ++ D)) := by
        refine k _ ?_ (ins1 h.lin (by rw [← hY12]; exact sY) hPx (by rw [← hY12]; exact hPY) hlo hhi (by rw [← hY12]; exact fun y hy => hι x (List.mem_cons_self ..) y hy))
        have p1 : (Y.take i ++ x :: Y.drop i).Perm (x :: (Y.take i ++ Y.drop i)) := List.perm_middle
        rw [← hY12] at p1
        exact p1
      generalize Y.take i = Y1 at *
      generalize Y.drop i = Y2 at *
      subst hY12
      rw [w3]
      refine ⟨fun y B => ∃ U V : List (TE × G), Y1 = U ++ V ∧ y = ((A.length + U.length : Nat) : Int) ∧ B = arr H0 b sp (A ++ U ++ x :: (V ++ Y2 ++ D)), fun y _ => A.length + i - y.toNat, ⟨[], Y1, rfl, by simp, by simp only [List.append_assoc, List.cons_append, List.nil_append, List.append_nil, List.singleton_append]⟩, ?_⟩
      rintro y B ⟨U, V, rfl, rfl, rfl⟩
      simp only [List.length_append] at l1 hn hj
      refine ift.of (fun hlt => ?_) (fun hlt => ?_)
      · have hlt := of_decide_eq_true hlt
        cases V with
        | nil => simp only [List.length_nil] at l1; omega
        | cons v V =>
        simp only [List.length_cons] at l1 hn
        have w4 : w .i64 (((A.length + U.length : Nat) : Int) + 1) = ((A.length + U.length + 1 : Nat) : Int) := by rw [w_i64 (by omega) (by omega)]; omega
        rw [w4]
        refine ⟨fun _ B => B = arr H0 b sp ((A ++ U) ++ v :: ([] ++ x :: (V ++ Y2 ++ D))), ?_, ?_⟩
        · show dr _ _
          refine swp1 (J := fun _ B => B = arr H0 b sp ((A ++ U) ++ v :: ([] ++ x :: (V ++ Y2 ++ D)))) h.s (A := A ++ U) (x := x) (B := []) (y := v) (D := V ++ Y2 ++ D) ?_ ?_ ?_ ?_ rfl
          · first | (simp only [List.length_append, List.length_nil]; done) | (simp only [List.length_append, List.length_nil]; omega)
          · simp only [List.append_assoc, List.cons_append, List.nil_append]
          · simp only [List.length_append]
          · first | (simp only [List.length_append, List.length_nil]; done) | (simp only [List.length_append, List.length_nil]; omega)
        rintro _ B rfl
        refine ⟨⟨U ++ [v], V, by simp, by simp only [List.length_append, List.length_singleton]; omega, by simp only [List.append_assoc, List.cons_append, List.nil_append, List.singleton_append]⟩, by first | omega | (dsimp only; omega)⟩
      · have hlt := of_decide_eq_false hlt
        have hV : V = [] := List.length_eq_zero_iff.1 (by omega)
        subst hV
        simpa only [List.append_assoc, List.cons_append, List.nil_append, List.append_nil] using fin
  refine ift.of (fun hone2 => ?_) (fun hone2 => ?_)
  · -- many ahead of one
    have hy1 : Y.length = 1 := by
      have : ((Y.length : Nat) : Int) = 1 := by simpa using hone2
      omega
    obtain ⟨y, rfl⟩ := List.length_eq_one_iff.1 hy1
    have hPy : P y := hPY y (List.mem_cons_self ..)
    refine ⟨fun z B => B = arr H0 b sp (A ++ X ++ [y] ++ D) ∧ ∃ i j : Nat, z = (((A.length + i : Nat) : Int), ((A.length + j : Nat) : Int)) ∧ i ≤ j ∧ j ≤ X.length ∧ (∀ x ∈ X.take i, ¬ κ y x < 0) ∧ (∀ x ∈ X.drop j, κ y x < 0), fun z _ => (z.2 - z.1).toNat,
      ⟨rfl, 0, X.length, by simp, Nat.zero_le _, Nat.le_refl _, fun y hy => by simp at hy, fun y hy => by simp at hy⟩, ?_⟩
    rintro _ B ⟨rfl, i, j, rfl, hij, hj, hlo, hhi⟩
    dsimp only
    refine ift.of (fun hlt => ?_) (fun hlt => ?_)
    · have hlt : i < j := by have := of_decide_eq_true hlt; omega
      rw [half_ok (by omega)]
      have hh : (A.length + i + (A.length + j)) / 2 = A.length + (i + j) / 2 := by omega
      rw [hh]
      have hc1 : i ≤ (i + j) / 2 := by omega
      have hc2 : (i + j) / 2 < j := by omega
      generalize (i + j) / 2 = c at *
      have hcl : c < X.length := by omega
      have hPc := hPX _ (List.getElem_mem hcl)
      have hpm := pw_mid sX hcl
      have eX := eq_mid hcl
      have lt : (X.take c).length = c := by rw [List.length_take]; omega
      refine ⟨_, Heap.le.refl _, ?_⟩
      refine cmp0 h (by simp only [List.length_append]; omega) (A := A ++ X) (x := y) (D := D) (by simp) (by simp) (A2 := A ++ X.take c) (y := X[c]) (D2 := X.drop (c + 1) ++ [y] ++ D) ?_ ?_ hPy hPc ?_
      · conv => lhs; rw [eX]
        simp only [List.append_assoc, List.cons_append]
      · simp only [List.length_append, lt]
      refine ift.of (fun hd => ?_) (fun hd => ?_)
      · have hd : ¬ κ y X[c] < 0 := by simpa using hd
        rw [w_i64 (by omega) (by omega)]
        refine ⟨⟨rfl, c + 1, j, pr (by omega) (by omega), by omega, hj, fun x hx => ?_, hhi⟩, by first | omega | (dsimp only; omega)⟩
        rw [List.take_add_one, List.getElem?_eq_getElem hcl, Option.toList_some] at hx
        rcases List.mem_append.1 hx with hx | hx
        · intro hyx
          exact hd ((h.lin.tr y x X[c] hPy (hPX x (mem_take hx)) hPc (by omega) (hpm.1 x hx).le).2 (.inl hyx))
        · rw [List.mem_singleton.1 hx]; exact hd
      · have hd : κ y X[c] < 0 := by simpa using hd
        refine ⟨⟨rfl, i, c, rfl, hc1, by omega, hlo, fun x hx => ?_⟩, by first | omega | (dsimp only; omega)⟩
        rw [List.drop_eq_getElem_cons hcl] at hx
        rcases List.mem_cons.1 hx with rfl | hx
        · exact hd
        · exact (h.lin.tr y X[c] x hPy hPc (hPX x (mem_drop hx)) (by omega) (hpm.2 x hx).le).2 (.inl hd)
    · have hij : i = j := by have := of_decide_eq_false hlt; omega
      subst hij
      have hX12 : X = X.take i ++ X.drop i := (List.take_append_drop ..).symm
      have l1 : (X.take i).length = i := by rw [List.length_take]; omega
      have fin : K (arr H0 b sp (A ++ (X.take i ++ y :: X.drop i) ++ D)) := by
        refine k _ ?_ (ins2 h.lin (by rw [← hX12]; exact sX) hPy (by rw [← hX12]; exact hPX) hlo hhi (by rw [← hX12]; exact fun x hx => hι x hx y (List.mem_cons_self ..)))
        have p1 : (X.take i ++ y :: X.drop i).Perm (y :: (X.take i ++ X.drop i)) := List.perm_middle
        rw [← hX12] at p1
        exact p1.trans (List.perm_append_comm (l₁ := [y]))
      generalize X.take i = X1 at *
      generalize X.drop i = X2 at *
      subst hX12
      refine ⟨fun z B => ∃ U V : List (TE × G), X2 = U ++ V ∧ z = ((A.length + i + U.length : Nat) : Int) ∧ B = arr H0 b sp (A ++ X1 ++ U ++ y :: (V ++ D)), fun z _ => z.toNat, ⟨X2, [], by simp, by simp only [List.length_append]; omega, by simp only [List.append_assoc, List.cons_append, List.nil_append, List.append_nil, List.singleton_append]⟩, ?_⟩
      rintro z B ⟨U, V, rfl, rfl, rfl⟩
      simp only [List.length_append, List.length_singleton] at l1 hn hj
      refine ift.of (fun hlt => ?_) (fun hlt => ?_)
      · have hlt := of_decide_eq_true hlt
        have hne : U ≠ [] := fun e => by subst e; simp at hlt
        obtain ⟨U', u, rfl⟩ := snoc_of hne
        simp only [List.length_append, List.length_singleton] at hn hlt ⊢
        have w4 : w .i64 (((A.length + i + (U'.length + 1) : Nat) : Int) - 1) = ((A.length + i + U'.length : Nat) : Int) := by rw [w_i64 (by omega) (by omega)]; omega
        rw [w4]
        refine ⟨fun _ B => B = arr H0 b sp ((A ++ X1 ++ U') ++ y :: ([] ++ u :: (V ++ D))), ?_, ?_⟩
        · show dr _ _
          refine swp2 (J := fun _ B => B = arr H0 b sp ((A ++ X1 ++ U') ++ y :: ([] ++ u :: (V ++ D)))) h.s (A := A ++ X1 ++ U') (x := u) (B := []) (y := y) (D := V ++ D) ?_ ?_ ?_ ?_ rfl
          · first | (simp only [List.length_append, List.length_nil]; done) | (simp only [List.length_append, List.length_nil]; omega)
          · simp only [List.append_assoc, List.cons_append, List.nil_append]
          · simp only [List.length_append]; omega
          · first | (simp only [List.length_append, List.length_nil]; done) | (simp only [List.length_append, List.length_nil]; omega)
        rintro _ B rfl
        refine ⟨⟨U', u :: V, by simp, rfl, by simp only [List.append_assoc, List.cons_append, List.nil_append]⟩, by first | omega | (dsimp only; omega)⟩
      · have hlt := of_decide_eq_false hlt
        have hU : U = [] := List.length_eq_zero_iff.1 (by omega)
        subst hU
        simpa only [List.append_assoc, List.cons_append, List.nil_append, List.append_nil] using fin
  -- many and many
  have hx2 : X.length ≠ 1 := fun e => by rw [e] at hone; simp at hone
  have hy2 : Y.length ≠ 1 := fun e => by rw [e] at hone2; simp at hone2
  clear hone hone2
  have hmid : w .i64 (sShr .u64 (w .u64 (w .i64 ((A.length : Int) + ((A.length + X.length + Y.length : Nat) : Int)))) 1) = ((A.length + (X.length + Y.length) / 2 : Nat) : Int) := by
    rw [half_ok (by omega)]; omega
  rw [hmid]
  have hf1 : 2 ≤ (X.length + Y.length) / 2 := by omega
  have hf2 : 2 * ((X.length + Y.length) / 2) ≤ X.length + Y.length := by omega
  have hf3 : X.length + Y.length ≤ 2 * ((X.length + Y.length) / 2) + 1 := by omega
  generalize (X.length + Y.length) / 2 = F at *
  have wn : w .i64 (((A.length + F : Nat) : Int) + ((A.length + X.length : Nat) : Int)) = ((A.length + F + (A.length + X.length) : Nat) : Int) := by rw [w_i64 (by omega) (by omega)]; omega
  have wp : w .i64 (((A.length + F + (A.length + X.length) : Nat) : Int) - 1) = ((A.length + F + (A.length + X.length) - 1 : Nat) : Int) := by rw [w_i64 (by omega) (by omega)]; omega
  rw [wn, wp]
  have ws : w .i64 (((A.length + F + (A.length + X.length) : Nat) : Int) - ((A.length + X.length + Y.length : Nat) : Int)) = ((A.length + F : Nat) : Int) - ((Y.length : Nat) : Int) := by rw [w_i64 (by omega) (by omega)]; omega
  rw [ws]
  -- from where to where
  refine ⟨fun x B => B = arr H0 b sp (A ++ X ++ Y ++ D) ∧ ∃ lo hi : Nat, x = (((A.length + lo : Nat) : Int), ((A.length + hi : Nat) : Int)) ∧ lo ≤ hi ∧ hi ≤ X.length ∧ hi ≤ F ∧ F ≤ lo + Y.length ∧ (lo = 0 ∨ F = lo + Y.length) ∧ (hi = X.length ∨ hi = F), ift.of (fun hgt => ?_) (fun hgt => ?_), ?_⟩
  · have hgt := of_decide_eq_true hgt
    exact ⟨rfl, F - Y.length, F, pr (by omega) (by omega), by omega, by omega, by omega, by omega, .inr (by omega), .inr rfl⟩
  · have hgt := of_decide_eq_false hgt
    exact ⟨rfl, 0, X.length, pr (by omega) (by omega), by omega, by omega, by omega, by omega, .inl rfl, .inl rfl⟩
  rintro _ B ⟨rfl, lo, hi, rfl, hlh, hhX, hhF, hFl, hlo, hhi⟩
  have idx : ∀ c : Nat, c < X.length → c < F → F < c + 1 + Y.length → F - 1 - c < Y.length := fun c _ _ _ => by omega
  refine ⟨fun x B => B = arr H0 b sp (A ++ X ++ Y ++ D) ∧ ∃ i j : Nat, x = (((A.length + i : Nat) : Int), ((A.length + j : Nat) : Int)) ∧ lo ≤ i ∧ i ≤ j ∧ j ≤ hi ∧
      (lo < i → ∃ x y, X[i - 1]? = some x ∧ Y[F - i]? = some y ∧ ¬ κ y x < 0) ∧ (j < hi → ∃ x y, X[j]? = some x ∧ Y[F - 1 - j]? = some y ∧ κ y x < 0), fun x _ => (x.2 - x.1).toNat,
    ⟨rfl, lo, hi, rfl, Nat.le_refl _, hlh, Nat.le_refl _, fun hh => absurd hh (Nat.lt_irrefl _), fun hh => absurd hh (Nat.lt_irrefl _)⟩, ?_⟩
  rintro _ B ⟨rfl, i, j, rfl, hli, hij, hjh, hA, hB⟩
  dsimp only
  refine ift.of (fun hlt => ?_) (fun hlt => ?_)
  · have hlt : i < j := by have := of_decide_eq_true hlt; omega
    rw [half_ok (by omega)]
    have hh : (A.length + i + (A.length + j)) / 2 = A.length + (i + j) / 2 := by omega
    rw [hh]
    have hc1 : i ≤ (i + j) / 2 := by omega
    have hc2 : (i + j) / 2 < j := by omega
    generalize (i + j) / 2 = c at *
    have hcX : c < X.length := by omega
    have hcY : F - 1 - c < Y.length := by omega
    have wq : w .i64 (((A.length + F + (A.length + X.length) - 1 : Nat) : Int) - ((A.length + c : Nat) : Int)) = ((A.length + X.length + (F - 1 - c) : Nat) : Int) := by
        have hcF : c < F := by omega
        exact idx_ok hcF (by omega) (by omega)
    rw [wq]
    have eX := eq_mid hcX
    have eY := eq_mid hcY
    have ltX : (X.take c).length = c := by rw [List.length_take]; omega
    have ltY : (Y.take (F - 1 - c)).length = F - 1 - c := by rw [List.length_take]; omega
    refine ⟨_, Heap.le.refl _, ?_⟩
    refine cmp0 h (by simp only [List.length_append]; omega) (A := A ++ X ++ Y.take (F - 1 - c)) (x := Y[F - 1 - c]) (D := Y.drop (F - 1 - c + 1) ++ D) ?_ ?_ (A2 := A ++ X.take c) (y := X[c]) (D2 := X.drop (c + 1) ++ Y ++ D) ?_ ?_ (hPY _ (List.getElem_mem hcY)) (hPX _ (List.getElem_mem hcX)) ?_
    · conv => lhs; rw [eY]
      simp only [List.append_assoc, List.cons_append]
    · simp only [List.length_append, ltY]
    · conv => lhs; rw [eX]
      simp only [List.append_assoc, List.cons_append]
    · simp only [List.length_append, ltX]
    refine ift.of (fun hd => ?_) (fun hd => ?_)
    · have hd : ¬ κ Y[F - 1 - c] X[c] < 0 := by simpa using hd
      rw [w_i64 (by omega) (by omega)]
      refine ⟨⟨rfl, c + 1, j, pr (by omega) (by omega), by omega, by omega, hjh, fun _ => ⟨X[c], Y[F - 1 - c], List.getElem?_eq_getElem hcX, ?_, hd⟩, hB⟩, by first | omega | (dsimp only; omega)⟩
      rw [show F - (c + 1) = F - 1 - c by omega]; exact List.getElem?_eq_getElem hcY
    · have hd : κ Y[F - 1 - c] X[c] < 0 := by simpa using hd
      exact ⟨⟨rfl, i, c, rfl, hli, hc1, by omega, hA, fun _ => ⟨X[c], Y[F - 1 - c], List.getElem?_eq_getElem hcX, List.getElem?_eq_getElem hcY, hd⟩⟩, by first | omega | (dsimp only; omega)⟩
  · have hij : i = j := by have := of_decide_eq_false hlt; omega
    subst hij
    have we : w .i64 (((A.length + F + (A.length + X.length) : Nat) : Int) - ((A.length + i : Nat) : Int)) = ((A.length + X.length + (F - i) : Nat) : Int) := by rw [w_i64 (by omega) (by omega)]; omega
    rw [we]
    have hFi : F - i ≤ Y.length := by omega
    have spX := pw_split sX i
    have spY := pw_split sY (F - i)
    have eX : X = X.take i ++ X.drop i := (List.take_append_drop ..).symm
    have eY : Y = Y.take (F - i) ++ Y.drop (F - i) := (List.take_append_drop ..).symm
    have l1 : (X.take i).length = i := by rw [List.length_take]; omega
    have l2 : (X.drop i).length = X.length - i := List.length_drop ..
    have l3 : (Y.take (F - i)).length = F - i := by rw [List.length_take]; omega
    have l4 : (Y.drop (F - i)).length = Y.length - (F - i) := List.length_drop ..
    -- what is ahead stands ahead
    have c1 : ∀ x ∈ X.take i, ∀ y ∈ Y.drop (F - i), Bf κ ι x y := by
      intro x hx y hy
      rcases Nat.lt_or_ge lo i with hlt | hge
      · obtain ⟨x0, y0, hx0, hy0, hn0⟩ := hA hlt
        have hx0l : i - 1 < X.length := by omega
        obtain ⟨hy0l, hy0e⟩ := List.getElem?_eq_some_iff.1 hy0
        obtain ⟨_, hx0e⟩ := List.getElem?_eq_some_iff.1 hx0
        have m1 : x0 ∈ X := hx0e ▸ List.getElem_mem hx0l
        have m2 : y0 ∈ Y := hy0e ▸ List.getElem_mem hy0l
        have a1 : κ x x0 ≤ 0 := by
          have hx' : x ∈ X.take (i - 1 + 1) := by rw [show i - 1 + 1 = i by omega]; exact hx
          rw [List.take_add_one, hx0, Option.toList_some] at hx'
          rcases List.mem_append.1 hx' with hx' | hx'
          · have := ((pw_mid sX hx0l).1 x hx').le; rw [hx0e] at this; exact this
          · rw [List.mem_singleton.1 hx', h.lin.refl (hPX x0 m1)]; omega
        have a2 : κ y0 y ≤ 0 := by
          rw [List.drop_eq_getElem_cons hy0l, hy0e] at hy
          rcases List.mem_cons.1 hy with rfl | hy
          · rw [h.lin.refl (hPY y m2)]; omega
          · have := ((pw_mid sY hy0l).2 y hy).le; rw [hy0e] at this; exact this
        have a3 := h.lin.anti y0 x0 (hPY y0 m2) (hPX x0 m1)
        have a4 := (h.lin.tr x x0 y0 (hPX x (mem_take hx)) (hPX x0 m1) (hPY y0 m2) a1 (by omega)).1
        have a5 := (h.lin.tr x y0 y (hPX x (mem_take hx)) (hPY y0 m2) (hPY y (mem_drop hy)) a4 a2).1
        exact Bf.of a5 (hι x (mem_take hx) y (mem_drop hy))
      · rcases hlo with h0 | h0
        · have : i = 0 := by omega
          rw [this] at hx; simp at hx
        · have : (Y.drop (F - i)).length = 0 := by omega
          rw [List.length_eq_zero_iff.1 this] at hy; cases hy
    have c2 : ∀ y ∈ Y.take (F - i), ∀ x ∈ X.drop i, Bf κ ι y x := by
      intro y hy x hx
      rcases Nat.lt_or_ge i hi with hlt | hge
      · obtain ⟨x0, y0, hx0, hy0, hn0⟩ := hB hlt
        obtain ⟨hy0l, hy0e⟩ := List.getElem?_eq_some_iff.1 hy0
        obtain ⟨hx0l, hx0e⟩ := List.getElem?_eq_some_iff.1 hx0
        have m1 : x0 ∈ X := hx0e ▸ List.getElem_mem hx0l
        have m2 : y0 ∈ Y := hy0e ▸ List.getElem_mem hy0l
        have a1 : κ y y0 ≤ 0 := by
          have hy' : y ∈ Y.take (F - 1 - i + 1) := by rw [show F - 1 - i + 1 = F - i by omega]; exact hy
          rw [List.take_add_one, hy0, Option.toList_some] at hy'
          rcases List.mem_append.1 hy' with hy' | hy'
          · have := ((pw_mid sY hy0l).1 y hy').le; rw [hy0e] at this; exact this
          · rw [List.mem_singleton.1 hy', h.lin.refl (hPY y0 m2)]; omega
        have a2 : κ x0 x ≤ 0 := by
          rw [List.drop_eq_getElem_cons hx0l, hx0e] at hx
          rcases List.mem_cons.1 hx with rfl | hx
          · rw [h.lin.refl (hPX x m1)]; omega
          · have := ((pw_mid sX hx0l).2 x hx).le; rw [hx0e] at this; exact this
        have a4 := (h.lin.tr y y0 x0 (hPY y (mem_take hy)) (hPY y0 m2) (hPX x0 m1) a1 (by omega)).2 (.inr hn0)
        exact .inl ((h.lin.tr y x0 x (hPY y (mem_take hy)) (hPX x0 m1) (hPX x (mem_drop hx)) (by omega) a2).2 (.inl a4))
      · rcases hhi with h0 | h0
        · have : (X.drop i).length = 0 := by omega
          rw [List.length_eq_zero_iff.1 this] at hx; cases hx
        · have : F - i = 0 := by omega
          rw [this] at hy; simp at hy
    have hP1 : ∀ x ∈ X.take i ++ Y.take (F - i), P x := fun x hx => by
      rcases List.mem_append.1 hx with hx | hx
      · exact hPX x (mem_take hx)
      · exact hPY x (mem_take hx)
    have hP2 : ∀ x ∈ X.drop i ++ Y.drop (F - i), P x := fun x hx => by
      rcases List.mem_append.1 hx with hx | hx
      · exact hPX x (mem_drop hx)
      · exact hPY x (mem_drop hx)
    have ι1 : ∀ x ∈ X.take i, ∀ y ∈ Y.take (F - i), ι x < ι y := fun x hx y hy => hι x (mem_take hx) y (mem_take hy)
    have ι2 : ∀ x ∈ X.drop i, ∀ y ∈ Y.drop (F - i), ι x < ι y := fun x hx y hy => hι x (mem_drop hx) y (mem_drop hy)
    have k2 : ∀ Z1 Z2 : List (TE × G), Z1.Perm (X.take i ++ Y.take (F - i)) → Z1.Pairwise (Bf κ ι) → Z2.Perm (X.drop i ++ Y.drop (F - i)) → Z2.Pairwise (Bf κ ι) → K (arr H0 b sp (A ++ (Z1 ++ Z2) ++ D)) := by
      intro Z1 Z2 p1 s1 p2 s2
      refine k _ ?_ (List.pairwise_append.2 ⟨s1, s2, fun u hu v hv => ?_⟩)
      · have p3 := p1.append p2
        refine p3.trans ?_
        conv => rhs; rw [eX, eY]
        simp only [List.append_assoc]
        refine List.Perm.append_left _ ?_
        rw [← List.append_assoc, ← List.append_assoc]
        exact List.Perm.append_right _ List.perm_append_comm
      · rcases List.mem_append.1 (p1.mem_iff.1 hu) with hu | hu
        · rcases List.mem_append.1 (p2.mem_iff.1 hv) with hv | hv
          · exact spX.2.2 u hu v hv
          · exact c1 u hu v hv
        · rcases List.mem_append.1 (p2.mem_iff.1 hv) with hv | hv
          · exact c2 u hu v hv
          · exact spY.2.2 u hu v hv
    generalize X.take i = X1 at *
    generalize X.drop i = X2 at *
    generalize Y.take (F - i) = Y1 at *
    generalize Y.drop (F - i) = Y2 at *
    have hlX : X.length = X1.length + X2.length := by rw [eX, List.length_append]
    have hlY : Y.length = Y1.length + Y2.length := by rw [eY, List.length_append]
    refine ⟨fun _ B => B = arr H0 b sp (A ++ X1 ++ Y1 ++ X2 ++ Y2 ++ D), ift.of (fun hr => ?_) (fun hr => ?_), ?_⟩
    · simp only [Bool.and_eq_true, decide_eq_true_eq] at hr
      have e0 : A ++ X ++ Y ++ D = (A ++ X1) ++ X2 ++ Y1 ++ (Y2 ++ D) := by rw [eX, eY]; simp only [List.append_assoc]
      rw [e0]
      refine rot_ok h.s (A := A ++ X1) (X := X2) (Y := Y1) (D := Y2 ++ D) (by simp only [List.length_append]; omega) (fun e => by rw [e] at hlX; simp only [List.length_nil] at hlX; omega) (fun e => by rw [e] at l3; simp only [List.length_nil] at l3; omega) (by simp only [List.length_append]; omega) (by simp only [List.length_append]; omega) (by simp only [List.length_append]; omega) ?_
      simp only [List.append_assoc]
    · simp only [Bool.and_eq_false_iff, decide_eq_false_iff_not] at hr
      rw [eX, eY]
      rcases hr with hr | hr
      · have : X2 = [] := List.length_eq_zero_iff.1 (by omega)
        subst this
        simp only [List.append_assoc, List.nil_append, List.append_nil]
      · have : Y1 = [] := List.length_eq_zero_iff.1 (by omega)
        subst this
        simp only [List.append_assoc, List.nil_append, List.append_nil]
    rintro _ B rfl
    refine ⟨fun _ B => ∃ Z1 : List (TE × G), Z1.Perm (X1 ++ Y1) ∧ Z1.Pairwise (Bf κ ι) ∧ B = arr H0 b sp (A ++ Z1 ++ X2 ++ Y2 ++ D), ift.of (fun hr => ?_) (fun hr => ?_), ?_⟩
    · simp only [Bool.and_eq_true, decide_eq_true_eq] at hr
      have e0 : A ++ X1 ++ Y1 ++ X2 ++ Y2 ++ D = A ++ X1 ++ Y1 ++ (X2 ++ Y2 ++ D) := by simp only [List.append_assoc]
      rw [e0]
      refine ih (X := X1) (Y := Y1) (A := A) (D := X2 ++ Y2 ++ D) (by omega) (fun e => by rw [e] at l1; simp only [List.length_nil] at l1; omega) (fun e => by rw [e] at l3; simp only [List.length_nil] at l3; omega) rfl (by omega) (by omega) (by simp only [List.length_append]; omega) hP1 spX.1 spY.1 ι1 fun Z p1 s1 => ⟨Z, p1, s1, by simp only [List.append_assoc]⟩
    · simp only [Bool.and_eq_false_iff, decide_eq_false_iff_not] at hr
      refine ⟨X1 ++ Y1, .refl _, ?_, by simp only [List.append_assoc]⟩
      rcases hr with hr | hr
      · have : X1 = [] := List.length_eq_zero_iff.1 (by omega)
        subst this
        exact spY.1
      · have : Y1 = [] := List.length_eq_zero_iff.1 (by omega)
        subst this
        rw [List.append_nil]; exact spX.1
    rintro _ B ⟨Z1, p1, s1, rfl⟩
    have hz1 := p1.length_eq
    rw [List.length_append] at hz1
    refine ift.of (fun hr => ?_) (fun hr => ?_)
    · simp only [Bool.and_eq_true, decide_eq_true_eq] at hr
      have e0 : A ++ Z1 ++ X2 ++ Y2 ++ D = (A ++ Z1) ++ X2 ++ Y2 ++ D := by simp only [List.append_assoc]
      rw [e0]
      refine ih (X := X2) (Y := Y2) (A := A ++ Z1) (D := D) (by omega) (fun e => by rw [e] at hlX; simp only [List.length_nil] at hlX; omega) (fun e => by rw [e] at l4; simp only [List.length_nil] at l4; omega) (by simp only [List.length_append]; omega) (by simp only [List.length_append]; omega) (by simp only [List.length_append]; omega) (by simp only [List.length_append]; omega) hP2 spX.2.1 spY.2.1 ι2 fun Z p2 s2 => ?_
      have := k2 Z1 Z p1 s1 p2 s2
      simpa only [List.append_assoc] using this
    · simp only [Bool.and_eq_false_iff, decide_eq_false_iff_not] at hr
      have s2 : (X2 ++ Y2).Pairwise (Bf κ ι) := by
        rcases hr with hr | hr
        · have : X2 = [] := List.length_eq_zero_iff.1 (by omega)
          subst this
          exact spY.2.1
        · have : Y2 = [] := List.length_eq_zero_iff.1 (by omega)
          subst this
          rw [List.append_nil]; exact spX.2.1
      have := k2 Z1 (X2 ++ Y2) p1 s1 (.refl _) s2
      simpa only [List.append_assoc] using this
theorem sym_ok (h : Where C H0 R s b n f P κ) {X Y A D : List (TE × G)} {a m e : Int} {K : Heap → Prop} (hX : X ≠ []) (hY : Y ≠ []) (ha : a = (A.length : Int)) (hm : m = ((A.length + X.length : Nat) : Int)) (he : e = ((A.length + X.length + Y.length : Nat) : Int)) (hn : A.length + X.length + Y.length + D.length = n)
    (hP : ∀ x ∈ X ++ Y, P x) (sX : X.Pairwise (Bf κ ι)) (sY : Y.Pairwise (Bf κ ι)) (hι : ∀ x ∈ X, ∀ y ∈ Y, ι x < ι y)
    (k : ∀ Z : List (TE × G), Z.Perm (X ++ Y) → Z.Pairwise (Bf κ ι) → K (arr H0 b sp (A ++ Z ++ D))) : c_slices_symMergeCmpFunc_api_Value C s a m e f K (arr H0 b sp (A ++ X ++ Y ++ D)) :=
  sym_key h _ (Nat.le_refl _) hX hY ha hm he hn hP sX sY hι k
theorem stb_ok (h : Where C H0 R s b n f P κ) {L0 : List (TE × G)} {K : Heap → Prop} (hn : L0.length = n) (hP : ∀ x ∈ L0, P x) (hι : L0.Pairwise fun x y => ι x < ι y)
    (k : ∀ Z : List (TE × G), Z.Perm L0 → Z.Pairwise (Bf κ ι) → K (arr H0 b sp Z)) : c_slices_stableCmpFunc_api_Value C s (n : Int) f K (arr H0 b sp L0) := by
  have hsm := h.s.small
  apply ad_slices_stableCmpFunc_api_Value
  unfold sh_slices_stableCmpFunc_api_Value
  refine ⟨fun x B => ∃ D0 R0 D : List (TE × G), L0 = D0 ++ R0 ∧ D.length = D0.length ∧ x = (((D.length : Nat) : Int), ((D.length + 20 : Nat) : Int)) ∧ B = arr H0 b sp (D ++ R0) ∧ ∀ Z', Ch κ ι 20 Z' R0 → Ch κ ι 20 (D ++ Z') L0, fun x _ => n - x.1.toNat,
    ⟨[], L0, [], rfl, rfl, rfl, rfl, fun Z' hz => hz⟩, ?_⟩
  rintro _ B ⟨D0, R0, D, hL, hD, rfl, rfl, hc⟩
  have hl : D.length + R0.length = n := by rw [← hn, hL, List.length_append, hD]
  have hP0 : ∀ x ∈ R0, P x := fun x hx => hP x (by rw [hL]; exact List.mem_append_right _ hx)
  have hι0 : R0.Pairwise fun x y => ι x < ι y := by rw [hL] at hι; exact (List.pairwise_append.1 hι).2.1
  dsimp only
  refine ift.of (fun hle => ?_) (fun hle => ?_)
  · have hle := of_decide_eq_true hle
    have hR : R0 = R0.take 20 ++ R0.drop 20 := (List.take_append_drop ..).symm
    have l1 : (R0.take 20).length = 20 := by rw [List.length_take]; omega
    have hι1 := (pw_split hι0 20).1
    have hP1 : ∀ x ∈ R0.take 20, P x := fun x hx => hP0 x (mem_take hx)
    generalize R0.take 20 = X at *
    generalize R0.drop 20 = R1 at *
    subst hR
    rw [List.length_append] at hl
    rw [w_i64 (by omega) (by omega)]
    have e0 : D ++ (X ++ R1) = D ++ X ++ R1 := by simp only [List.append_assoc]
    rw [e0]
    refine ins_ok h (A := D) (X := X) (D := R1) rfl (by omega) (by omega) hP1 hι1 fun Z p1 s1 => ?_
    have hz := p1.length_eq
    refine ⟨⟨D0 ++ X, R1, D ++ Z, by rw [hL]; simp only [List.append_assoc], by simp only [List.length_append]; omega, ?_, rfl, fun Z' hz' => ?_⟩, ?_⟩
    · exact pr (by simp only [List.length_append]; omega) (by simp only [List.length_append]; omega)
    · rw [List.append_assoc]
      exact hc _ (.cons l1 p1 s1 hz')
    · first | omega | (dsimp only; omega)
  · have hle := of_decide_eq_false hle
    have e0 : D ++ R0 = D ++ R0 ++ [] := by simp only [List.append_nil]
    rw [e0]
    refine ins_ok h (A := D) (X := R0) (D := []) rfl (by omega) (by simp only [List.length_nil]; omega) hP0 hι0 fun Z p1 s1 => ?_
    rw [List.append_nil]
    have hch := hc Z (.last (by omega) p1 s1)
    clear hc e0 hle hι0 hP0 hl hD hL
    generalize D ++ Z = Z at hch
    refine ⟨fun x B => ∃ (bs : Nat) (Z : List (TE × G)), x = (bs : Int) ∧ 1 ≤ bs ∧ bs ≤ 281474976710656 ∧ B = arr H0 b sp Z ∧ Ch κ ι bs Z L0, fun x _ => n - x.toNat, ⟨20, Z, rfl, by omega, by omega, rfl, hch⟩, ?_⟩
    rintro _ B ⟨bs, Z, rfl, hb1, hb2, rfl, hch⟩
    refine ift.of (fun hlt => ?_) (fun hlt => ?_)
    · have hlt : bs < n := by have := of_decide_eq_true hlt; omega
      have w2 : w .i64 (2 * (bs : Int)) = ((2 * bs : Nat) : Int) := by rw [w_i64 (by omega) (by omega)]; omega
      rw [w2]
      refine ⟨fun x B => ∃ D R D0 R0 : List (TE × G), L0 = D0 ++ R0 ∧ D.length = D0.length ∧ x = (((D.length : Nat) : Int), ((D.length + 2 * bs : Nat) : Int)) ∧ B = arr H0 b sp (D ++ R) ∧ Ch κ ι bs R R0 ∧ ∀ Z', Ch κ ι (2 * bs) Z' R0 → Ch κ ι (2 * bs) (D ++ Z') L0, fun x _ => n - x.1.toNat,
        ⟨[], Z, [], L0, rfl, rfl, pr rfl (by simp), rfl, hch, fun Z' hz => hz⟩, ?_⟩
      rintro _ B ⟨D, R, D0, R0, hL, hD, rfl, rfl, hR, hc⟩
      have hl : D.length + R0.length = n := by rw [← hn, hL, List.length_append, hD]
      have hP0 : ∀ x ∈ R0, P x := fun x hx => hP x (by rw [hL]; exact List.mem_append_right _ hx)
      have hι0 : R0.Pairwise fun x y => ι x < ι y := by rw [hL] at hι; exact (List.pairwise_append.1 hι).2.1
      have hrl := hR.perm.length_eq
      dsimp only
      have wa : w .i64 ((D.length : Int) + (bs : Int)) = ((D.length + bs : Nat) : Int) := by rw [w_i64 (by omega) (by omega)]; omega
      rw [wa]
      refine ift.of (fun hle => ?_) (fun hle => ?_)
      · have hle := of_decide_eq_true hle
        obtain ⟨X, R1, X0, R2, rfl, rfl, lx, px, sx, hR2⟩ := hR.big (by omega)
        rw [List.length_append] at hl
        obtain ⟨Y, R1, Y0, R2, rfl, rfl, ly, py, sy, hR3⟩ := hR2.big (by omega)
        rw [List.length_append] at hl
        have hxl := px.length_eq
        have hyl := py.length_eq
        have hr3 := hR3.perm.length_eq
        have wb : w .i64 (((D.length + 2 * bs : Nat) : Int) + ((2 * bs : Nat) : Int)) = ((D.length + 2 * bs + 2 * bs : Nat) : Int) := by rw [w_i64 (by omega) (by omega)]; omega
        rw [wb]
        have e0 : D ++ (X ++ (Y ++ R1)) = D ++ X ++ Y ++ R1 := by simp only [List.append_assoc]
        rw [e0]
        have hιx := List.pairwise_append.1 hι0
        refine sym_ok h (A := D) (X := X) (Y := Y) (D := R1) (fun e => by rw [e] at hxl; simp only [List.length_nil] at hxl; omega) (fun e => by rw [e] at hyl; simp only [List.length_nil] at hyl; omega) rfl (by omega) (by omega) (by omega) (fun x hx => ?_) sx sy (fun x hx y hy => hιx.2.2 x (px.mem_iff.1 hx) y (List.mem_append_left _ (py.mem_iff.1 hy))) fun Z1 p1 s1 => ?_
        · rcases List.mem_append.1 hx with hx | hx
          · exact hP0 x (List.mem_append_left _ (px.mem_iff.1 hx))
          · exact hP0 x (List.mem_append_right _ (List.mem_append_left _ (py.mem_iff.1 hx)))
        · have hz := p1.length_eq
          rw [List.length_append] at hz
          refine ⟨⟨D ++ Z1, R1, D0 ++ X0 ++ Y0, R2, by rw [hL]; simp only [List.append_assoc], by simp only [List.length_append]; omega, ?_, rfl, hR3, fun Z' hz' => ?_⟩, ?_⟩
          · exact pr (by simp only [List.length_append]; omega) (by simp only [List.length_append]; omega)
          · rw [List.append_assoc]
            refine hc _ ?_
            rw [← List.append_assoc]
            exact .cons (by rw [List.length_append]; omega) (p1.trans (px.append py)) s1 hz'
          · first | omega | (dsimp only; omega)
      · have hle := of_decide_eq_false hle
        refine ⟨fun _ B => ∃ Z : List (TE × G), B = arr H0 b sp Z ∧ Ch κ ι (2 * bs) Z L0, ift.of (fun hlt2 => ?_) (fun hlt2 => ?_), ?_⟩
        · have hlt2 := of_decide_eq_true hlt2
          obtain ⟨X, Y, X0, Y0, rfl, rfl, lx, px, sx, hR2⟩ := hR.big (by omega)
          rw [List.length_append] at hl
          have hxl := px.length_eq
          have hyl := hR2.perm.length_eq
          have sy := hR2.small (by omega)
          have hιx := List.pairwise_append.1 hι0
          have e0 : D ++ (X ++ Y) = D ++ X ++ Y ++ [] := by simp only [List.append_assoc, List.append_nil]
          rw [e0]
          refine sym_ok h (A := D) (X := X) (Y := Y) (D := []) (fun e => by rw [e] at hxl; simp only [List.length_nil] at hxl; omega) (fun e => by rw [e] at hyl; simp only [List.length_nil] at hyl; omega) rfl (by omega) (by omega) (by simp only [List.length_nil]; omega) (fun x hx => ?_) sx sy (fun x hx y hy => hιx.2.2 x (px.mem_iff.1 hx) y (hR2.perm.mem_iff.1 hy)) fun Z1 p1 s1 => ?_
          · rcases List.mem_append.1 hx with hx | hx
            · exact hP0 x (List.mem_append_left _ (px.mem_iff.1 hx))
            · exact hP0 x (List.mem_append_right _ (hR2.perm.mem_iff.1 hx))
          · refine ⟨D ++ Z1, by rw [List.append_nil], hc _ (.last (by rw [List.length_append]; omega) (p1.trans (px.append hR2.perm)) s1)⟩
        · have hlt2 := of_decide_eq_false hlt2
          exact ⟨D ++ R, rfl, hc _ (.last (by omega) hR.perm (hR.all (by omega) (by omega)))⟩
        · rintro _ B ⟨Z, rfl, hz⟩
          rw [w_i64 (by omega) (by omega)]
          exact ⟨⟨2 * bs, Z, by omega, by omega, by omega, rfl, hz⟩, by omega⟩
    · have hlt : n ≤ bs := by have := of_decide_eq_false hlt; omega
      exact k Z hch.perm (hch.all (by omega) (by omega))
theorem sort_ok (h : Where C H0 R s b n f P κ) {L0 : List (TE × G)} {K : Heap → Prop} (hn : L0.length = n) (hP : ∀ x ∈ L0, P x) (hι : L0.Pairwise fun x y => ι x < ι y)
    (k : ∀ Z : List (TE × G), Z.Perm L0 → Z.Pairwise (Bf κ ι) → K (arr H0 b sp Z)) : c_slices_SortStableFunc_api_Value_api_Value C s f K (arr H0 b sp L0) := by
  apply ad_slices_SortStableFunc_api_Value_api_Value
  unfold sh_slices_SortStableFunc_api_Value_api_Value
  rw [h.s.len]
  exact stb_ok h hn hP hι k
end
end Sx.SR
end

noncomputable section
set_option linter.unusedVariables false
set_option linter.unusedSimpArgs false
namespace Sx.SR
open Go Go.Proofs Sx
section
variable {G : Type} {H0 R : Heap} {b n : Nat} {sp : List Value} {s : Sl} {C : Ctx} {L A D : List (TE × G)} {x y : TE × G} {i : Int} {P : TE × G → Prop} {κ : TE × G → TE × G → Int} {f : Value}
/-- what tells whether two are alike -/
structure EqF (C : Ctx) (R : Heap) (f : Value) (P : TE × G → Prop) (κ : TE × G → TE × G → Int) : Prop where
  ok : ∀ A : Heap, R.le A → ∀ x y, P x → P y → ∀ Φ : Value → Heap → Prop, Φ (.bool (κ x y == 0)) A → callU Tryd.prog C f [argE x.1, argE y.1] A Φ
theorem arr_le (hle : R.le H0) (rb : R b = none) (sp : List Value) (L : List (TE × G)) : R.le (arr H0 b sp L) := fun z e hz => by
  have : z ≠ b := fun e' => by rw [e', rb] at hz; cases hz
  unfold arr
  rw [Heap.put_ne _ _ _ this]; exact hle _ _ hz
theorem ldr {q : Nat} {K : TE → Prop} (hL : L = A ++ x :: D) (hq : q = A.length) (k : K x.1) : ldL (arr H0 b sp L) (b, q) K := by
  have := ldx (H0 := H0) (b := b) (sp := sp) (K := K) (i := (A.length : Int)) hL rfl k
  rw [Int.toNat_natCast, Nat.mul_one, Nat.zero_add] at this
  rw [hq]; exact this
theorem arr_cut {Q X : List (TE × G)} {k : Nat} (hk : k = Q.length) (zs : List Value) (hz : zs.length = X.length) : (arr H0 b sp (Q ++ X)).put b (.row (splice ((Q ++ X).flatMap enc ++ sp) k zs)) = arr H0 b (zs ++ sp) Q := by
  unfold arr
  rw [Heap.put_put]
  have e1 : (Q ++ X).flatMap enc ++ sp = Q.flatMap enc ++ (X.flatMap enc ++ sp) := by rw [List.flatMap_append, List.append_assoc]
  have e2 : k = (Q.flatMap enc).length := by rw [flat_len]; omega
  have e3 : zs.length = (X.flatMap enc).length := by rw [flat_len]; omega
  rw [e1]
  unfold splice
  rw [e2, List.take_left, ← List.drop_drop, List.drop_left, e3, List.drop_left, List.append_assoc]
theorem compact_ok {Z : List (TE × G)} {K : Sl → Heap → Prop} (hs : Sls s b n) (hcap : n ≤ s.cap) (hle : R.le H0) (rb : R b = none) (hf : EqF C R f P κ) (hn : Z.length = n) (hP : ∀ x ∈ Z, P x)
    (k : ∀ sp2 : List Value, (cmpct κ Z).length + sp2.length = Z.length + sp.length → K ⟨some (b, 0), (cmpct κ Z).length, s.cap, none⟩ (arr H0 b sp2 (cmpct κ Z))) : c_slices_CompactFunc_api_Value_api_Value C s f K (arr H0 b sp Z) := by
  have hsm := hs.small
  have hse : s = ⟨some (b, 0), n, s.cap, none⟩ := by
    obtain ⟨p, l, c, x⟩ := s
    have h1 := hs.p; have h2 := hs.x; have h3 := hs.len
    simp only at h1 h2 h3
    subst h1; subst h2; subst h3; rfl
  apply ad_slices_CompactFunc_api_Value_api_Value
  unfold sh_slices_CompactFunc_api_Value_api_Value
  rw [hs.len]
  refine ift.of (fun h => ?_) (fun h => ?_)
  · have h : n < 2 := by have := of_decide_eq_true h; omega
    have e : cmpct κ Z = Z := by
      match Z, hn with
      | [], _ => rfl
      | [z], _ => rfl
      | _ :: _ :: _, hn => simp at hn; omega
    have := k sp (by rw [e])
    rw [e, hn, ← hse] at this
    exact this
  have h : 2 ≤ n := by have := of_decide_eq_false h; omega
  obtain ⟨z, Z', hZ⟩ := List.exists_cons_of_ne_nil (fun e => by rw [e] at hn; simp at hn; omega : Z ≠ [])
  refine ⟨fun x B => ∃ pre p rest, Z = pre ++ p :: rest ∧ cmpct κ (pre ++ [p]) = pre ++ [p] ∧ x = ((pre.length + 1 : Nat) : Int) ∧ B = arr H0 b sp Z, fun x _ => n - x.toNat, ⟨[], z, Z', hZ, rfl, rfl, rfl⟩, ?_⟩
  rintro x B ⟨pre, p, rest, hZe, hc, rfl, rfl⟩
  have hl : n = pre.length + (rest.length + 1) := by rw [← hn, hZe, List.length_append, List.length_cons]
  refine ift.of (fun hx => ?_) (fun hx => ?_)
  · cases rest with
    | nil => have := of_decide_eq_true hx; simp only [List.length_nil] at hl; omega
    | cons y rest =>
    simp only [List.length_cons] at hl
    have w1 : w .i64 (((pre.length + 1 : Nat) : Int) - 1) = (pre.length : Int) := by rw [w_i64 (by omega) (by omega)]; omega
    have hZ2 : Z = (pre ++ [p]) ++ y :: rest := by rw [hZe]; simp
    have hl1 : (pre ++ [p]).length = pre.length + 1 := by simp
    rw [w1]
    have hPp : P p := hP p (by rw [hZe]; simp)
    have hPy : P y := hP y (by rw [hZe]; simp)
    refine ⟨_, Heap.le.refl _, ixp hs rfl (by omega) (ldx hZ2 (by rw [hl1]) (ixp hs rfl (by omega) (ldx hZe rfl (hf.ok _ (arr_le hle rb sp Z) y p hPy hPp _ ⟨_, rfl, Heap.le.refl _, ?_⟩))))⟩
    refine ift.of (fun h0 => ?_) (fun h0 => ?_)
    · have h0 : κ y p = 0 := by simpa using h0
      have hne : ¬ ((s.cap : Int) = ((pre.length + 1 : Nat) : Int)) := by omega
      refine ⟨by omega, by omega, by omega, by omega, _, rfl, ?_⟩
      rw [if_neg hne, hs.p]
      have hx0 : (if (s.cap : Int) = ((pre.length + 1 : Nat) : Int) ∨ ((pre.length + 1 : Nat) : Int).toNat * 1 = 0 then s.x else none) = none := by
        rw [hs.x]; split <;> rfl
      rw [hx0]
      have hoff : (0 + ((pre.length + 1 : Nat) : Int).toNat * 1) = pre.length + 1 := by omega
      have hlen : ((n : Int) - ((pre.length + 1 : Nat) : Int)).toNat = n - (pre.length + 1) := by omega
      simp only [Option.map_some, hoff, hlen]
      generalize ((s.cap : Int) - ((pre.length + 1 : Nat) : Int)).toNat = cp
      refine ⟨fun x B => ∃ (pre2 M rest2 : List (TE × G)) (p2 : TE × G), Z = pre2 ++ p2 :: rest2 ∧ pre.length + 1 ≤ pre2.length ∧ x = (((cmpct κ (pre2 ++ [p2])).length : Int), ((pre2.length - pre.length : Nat) : Int)) ∧ (cmpct κ (pre2 ++ [p2])).length + M.length = pre2.length ∧ B = arr H0 b sp (cmpct κ (pre2 ++ [p2]) ++ M ++ p2 :: rest2), fun x _ => n - x.2.toNat,
        ⟨pre ++ [p], [], rest, y, hZ2, by simp, ?_, ?_, ?_⟩, ?_⟩
      · have e : cmpct κ (pre ++ [p] ++ [y]) = pre ++ [p] := by rw [List.append_assoc]; show cmpct κ (pre ++ [p, y]) = _; rw [cmpct_snoc, if_pos h0, hc, List.append_nil]
        rw [e, hl1, Nat.add_sub_cancel_left]; rfl
      · have e : cmpct κ (pre ++ [p] ++ [y]) = pre ++ [p] := by rw [List.append_assoc]; show cmpct κ (pre ++ [p, y]) = _; rw [cmpct_snoc, if_pos h0, hc, List.append_nil]
        rw [e]; simp
      · have e : cmpct κ (pre ++ [p] ++ [y]) = pre ++ [p] := by rw [List.append_assoc]; show cmpct κ (pre ++ [p, y]) = _; rw [cmpct_snoc, if_pos h0, hc, List.append_nil]
        rw [e, List.append_nil, ← hZ2]
      rintro x B ⟨pre2, M, rest2, p2, hZ3, hp2, rfl, hM, rfl⟩
      have hl2 : n = pre2.length + (rest2.length + 1) := by rw [← hn, hZ3, List.length_append, List.length_cons]
      dsimp only
      refine ift.of (fun hx2 => ?_) (fun hx2 => ?_)
      · cases rest2 with
        | nil => have := of_decide_eq_true hx2; simp only [List.length_nil] at hl2; omega
        | cons y2 rest3 =>
        simp only [List.length_cons] at hl2
        have w2 : w .i64 (((pre2.length - pre.length : Nat) : Int) - 1) = ((pre2.length - pre.length - 1 : Nat) : Int) := by rw [w_i64 (by omega) (by omega)]; omega
        have w3 : w .i64 (((pre2.length - pre.length : Nat) : Int) + 1) = ((pre2.length + 1 - pre.length : Nat) : Int) := by rw [w_i64 (by omega) (by omega)]; omega
        have hPp2 : P p2 := hP p2 (by rw [hZ3]; simp)
        have hPy2 : P y2 := hP y2 (by rw [hZ3]; simp)
        have hsn := cmpct_snoc (κ := κ) (x := p2) (y := y2) pre2
        generalize hQ : cmpct κ (pre2 ++ [p2]) = Q at *
        rw [w2]
        have tix : ∀ {K : Nat × Nat → Prop} {q : Nat}, q < n - (pre.length + 1) → K (b, pre.length + 1) → ixa ⟨some (b, pre.length + 1), n - (pre.length + 1), cp, none⟩ (q : Int) K := fun {K q} hq hk => ⟨_, rfl, rfl, by omega, by show (q : Int) < ((n - (pre.length + 1) : Nat) : Int); omega, hk⟩
        have hA1 : Q ++ M ++ p2 :: y2 :: rest3 = (Q ++ M ++ [p2]) ++ y2 :: rest3 := by simp
        have hA1l : (Q ++ M ++ [p2]).length = pre2.length + 1 := by simp only [List.length_append, List.length_singleton]; omega
        have hA2l : (Q ++ M).length = pre2.length := by simp only [List.length_append]; omega
        refine ⟨fun x B => ∃ (c : Bool) (N : List (TE × G)), c = (κ y2 p2 == 0) ∧ x = ((if c then Q else Q ++ [y2]).length : Int) ∧ (if c then Q else Q ++ [y2]).length + N.length = pre2.length + 1 ∧ B = arr H0 b sp ((if c then Q else Q ++ [y2]) ++ N ++ y2 :: rest3), ?_, ?_⟩
        · refine ⟨_, Heap.le.refl _, tix (by omega) (ldr hA1 ?_ (tix (by omega) (ldr (D := y2 :: rest3) rfl ?_ (hf.ok _ (arr_le hle rb sp _) y2 p2 hPy2 hPp2 _ ⟨_, rfl, Heap.le.refl _, ?_⟩))))⟩
          · rw [hA1l]; show pre.length + 1 + ((pre2.length - pre.length : Nat) : Int).toNat * 1 = _; omega
          · rw [hA2l]; show pre.length + 1 + ((pre2.length - pre.length - 1 : Nat) : Int).toNat * 1 = _; omega
          refine ift.of (fun h3 => ?_) (fun h3 => ?_)
          · have h3 : (κ y2 p2 == 0) = false := by simpa using h3
            refine tix (by omega) (ldr hA1 ?_ ?_)
            · rw [hA1l]; show pre.length + 1 + ((pre2.length - pre.length : Nat) : Int).toNat * 1 = _; omega
            obtain ⟨m, M2, hm⟩ := List.exists_cons_of_ne_nil (by simp : M ++ [p2] ≠ [])
            have hml : M.length + 1 = M2.length + 1 := by have := congrArg List.length hm; simpa using this
            have hA3 : Q ++ M ++ p2 :: y2 :: rest3 = Q ++ m :: (M2 ++ y2 :: rest3) := by
              rw [hA1, List.append_assoc Q, hm]; simp
            refine ixp hs rfl (by omega) (stx hA3 rfl ?_)
            refine ⟨false, M2, h3.symm, ?_, ?_, ?_⟩
            · rw [w_i64 (by omega) (by omega)]; simp
            · simp only [Bool.false_eq_true, if_false, List.length_append, List.length_singleton]; omega
            · simp only [Bool.false_eq_true, if_false, List.append_assoc, List.cons_append, List.nil_append]
          · have h3 : (κ y2 p2 == 0) = true := by simpa using h3
            refine ⟨true, M ++ [p2], h3.symm, rfl, ?_, ?_⟩
            · simp only [if_true, List.length_append, List.length_singleton]; omega
            · simp only [if_true, List.append_assoc, List.cons_append, List.nil_append]
        · rintro x B ⟨c, N, hcc, rfl, hN, rfl⟩
          rw [w3]
          have hQ2 : cmpct κ (pre2 ++ [p2] ++ [y2]) = if c then Q else Q ++ [y2] := by
            rw [List.append_assoc]
            show cmpct κ (pre2 ++ [p2, y2]) = _
            rw [hsn, hcc]
            by_cases h0 : κ y2 p2 = 0 <;> simp [h0]
          refine ⟨⟨pre2 ++ [p2], N, rest3, y2, by rw [hZ3]; simp, by simp; omega, ?_, ?_, ?_⟩, ?_⟩
          · rw [hQ2, List.length_append, List.length_singleton]
          · rw [hQ2, hN]; simp
          · rw [hQ2]
          · first | omega | (dsimp only; omega)
      · have hr : rest2 = [] := List.length_eq_zero_iff.1 (by have := of_decide_eq_false hx2; omega)
        subst hr
        simp only [List.length_nil] at hl2
        rw [← hZ3] at hM ⊢
        have hq0 : (cmpct κ Z).length ≤ pre2.length := by omega
        generalize hQ : cmpct κ Z = Q at *
        have hne2 : ¬ ((s.cap : Int) = (Q.length : Int)) := by omega
        refine ⟨by omega, by omega, by omega, by omega, _, rfl, ?_⟩
        rw [if_neg hne2, hs.p]
        have hx1 : (if (s.cap : Int) = (Q.length : Int) ∨ (Q.length : Int).toNat * 1 = 0 then s.x else none) = none := by
          rw [hs.x]; split <;> rfl
        rw [hx1]
        have hfl := flat_len (Q ++ M ++ [p2])
        simp only [List.length_append, List.length_singleton] at hfl
        refine .inr ⟨(b, 0 + (Q.length : Int).toNat * 1), _, rfl, rfl, Heap.put_same .., ?_, ?_⟩
        · show 0 + (Q.length : Int).toNat * 1 + ((n : Int) - (Q.length : Int)).toNat * 1 ≤ _
          rw [List.length_append, hfl]; omega
        have hcut := arr_cut (H0 := H0) (b := b) (sp := sp) (Q := Q) (X := M ++ [p2]) (k := 0 + (Q.length : Int).toNat * 1) (by omega) (zeros [slv Sl.nil] ((n : Int) - (Q.length : Int)).toNat) (by rw [zeros_length]; simp; omega)
        rw [← List.append_assoc] at hcut
        show slL _ _ _ _ _ _
        refine ⟨by omega, by omega, by omega, by omega, _, rfl, ?_⟩
        have hne3 : ¬ ((s.cap : Int) = 0) := by omega
        rw [if_neg hne3, hs.p]
        have hx2 : (if (s.cap : Int) = 0 ∨ (0 : Int).toNat * 1 = 0 then s.x else none) = none := by
          rw [hs.x]; split <;> rfl
        rw [hx2]
        have hl9 : ((Q.length : Int) - 0).toNat = Q.length := by omega
        have hl8 : ((s.cap : Int) - 0).toNat = s.cap := by omega
        simp only [Option.map_some, hl9, hl8]
        have := k (zeros [slv Sl.nil] ((n : Int) - (Q.length : Int)).toNat ++ sp) (by rw [List.length_append, zeros_length, hn]; simp; omega)
        rw [← hcut] at this
        exact this
    · have h0 : κ y p ≠ 0 := by simpa using h0
      rw [w_i64 (by omega) (by omega)]
      refine ⟨⟨pre ++ [p], y, rest, hZ2, ?_, by rw [hl1]; omega, rfl⟩, by first | omega | (dsimp only; omega)⟩
      rw [List.append_assoc]
      show cmpct κ (pre ++ [p, y]) = _
      rw [cmpct_snoc, if_neg h0, hc, List.append_assoc]
  · have hr : rest = [] := List.length_eq_zero_iff.1 (by have := of_decide_eq_false hx; omega)
    subst hr
    rw [← hZe] at hc
    have := k sp (by rw [hc])
    rw [hc, hn, ← hse] at this
    exact this
/-- nothing to sort -/
theorem sort_nil {H : Heap} {K : Heap → Prop} (h : s.len = 0) (k : K H) : c_slices_SortStableFunc_api_Value_api_Value C s f K H := by
  apply ad_slices_SortStableFunc_api_Value_api_Value
  unfold sh_slices_SortStableFunc_api_Value_api_Value
  rw [h]
  apply ad_slices_stableCmpFunc_api_Value
  unfold sh_slices_stableCmpFunc_api_Value
  refine ⟨fun x B => x = (0, 20) ∧ B = H, fun _ _ => 0, ⟨rfl, rfl⟩, ?_⟩
  rintro _ B ⟨rfl, rfl⟩
  refine ift_neg rfl ?_
  apply ad_slices_insertionSortCmpFunc_api_Value
  unfold sh_slices_insertionSortCmpFunc_api_Value
  refine ⟨fun x D => x = 1 ∧ D = B, fun _ _ => 0, ⟨rfl, rfl⟩, ?_⟩
  rintro _ D ⟨rfl, hD⟩
  subst hD
  refine ift_neg rfl ?_
  refine ⟨fun x E => x = 20 ∧ E = D, fun _ _ => 0, ⟨rfl, rfl⟩, ?_⟩
  rintro _ E ⟨rfl, hE⟩
  subst hE
  exact ift_neg rfl k
theorem compact_nil {H : Heap} {K : Sl → Heap → Prop} (h : s.len = 0) (k : K s H) : c_slices_CompactFunc_api_Value_api_Value C s f K H := by
  apply ad_slices_CompactFunc_api_Value_api_Value
  unfold sh_slices_CompactFunc_api_Value_api_Value
  rw [h]
  exact ift_pos rfl k
end
end Sx.SR
end

noncomputable section
set_option linter.unusedVariables false
set_option linter.unusedSimpArgs false
namespace Sx
open Go Go.Proofs
section
variable {α β : Type} {κ : α → α → Int} {ι : α → Nat} {κ' : β → β → Int} {ι' : β → Nat}
theorem Rep.map {f : α → β} (hk : ∀ a b, κ a b = κ' (f a) (f b)) (hi : ∀ a, ι a = ι' (f a)) {L A : List α} (h : Rep κ ι L A) : Rep κ' ι' (L.map f) (A.map f) := by
  refine ⟨List.pairwise_map.2 (h.asc.imp fun {a b} e => by rw [← hk]; exact e), fun y hy => ?_, fun x hx => ?_, fun y hy x hx e => ?_⟩
  · obtain ⟨z, hz, rfl⟩ := List.mem_map.1 hy
    exact List.mem_map.2 ⟨z, h.sub z hz, rfl⟩
  · obtain ⟨z, hz, rfl⟩ := List.mem_map.1 hx
    obtain ⟨y, hy, e⟩ := h.all z hz
    exact ⟨f y, List.mem_map.2 ⟨y, hy, rfl⟩, by rw [← hk]; exact e⟩
  · obtain ⟨z, hz, rfl⟩ := List.mem_map.1 hx
    obtain ⟨u, hu, rfl⟩ := List.mem_map.1 hy
    rcases h.fst u hu z hz (by rw [hk]; exact e) with e | e
    · exact .inl (by rw [e])
    · exact .inr (by rw [← hi, ← hi]; exact e)
theorem zipIdx_asc (L : List α) : L.zipIdx.Pairwise fun a b => a.2 < b.2 := by
  rw [List.pairwise_iff_getElem]
  intro i j hi hj h
  simp only [List.getElem_zipIdx]; omega
end
section
variable {C : Ctx} {H : Heap}
theorem cmpRows_call {R : Heap} {P : Sl × (List V × Nat) → Prop} (hP : ∀ e, P e → VRow R e.1 e.2.1 ∧ VBs e.2.1 ∧ e.2.1.length ≤ 140737488355328) {A : Heap} (hA : R.le A) {x y : Sl × (List V × Nat)} (hx : P x) (hy : P y) {K : Int → Heap → Prop} (k : K (cmpR x.2.1 y.2.1) A) :
    c_value_CmpRows C x.1 y.1 K A := by
  obtain ⟨x1, x2, x3⟩ := hP x hx
  obtain ⟨y1, y2, y3⟩ := hP y hy
  exact pCmpRows_ok (x1.le hA) (y1.le hA) x3 y3 x2 y2 k
theorem vsort_ok {A : Heap} {ls : List (List V)} {t : Sl} {K : Sl → Heap → Prop} (hv : VRows A t ls) (hle : A.le H) (hn : ls.length ≤ 1000) (hb : ∀ l ∈ ls, VBs l ∧ l.length ≤ 140737488355328 ∧ vsizes l ≤ 1000000)
    (k : ∀ t2 H2 A2, Srt H H2 ls t2 A2 → K t2 H2) : c_value_Sort C t K H := by
  apply ad_value_Sort
  unfold sh_value_Sort
  rw [hv.len]
  refine ⟨fun x D => ∃ (s : Sl) (ys : List Sl), x = (s, (ys.length : Int)) ∧ Og H D ls s ys, fun x _ => ls.length - x.2.toNat, ⟨Sl.nil, [], rfl, Og.nil⟩, ?_⟩
  rintro _ D ⟨s, ys, rfl, ho⟩
  refine ift.of (fun h => ?_) (fun h => ?_)
  · have hlt : ys.length < ls.length := by have := of_decide_eq_true h; dsimp only at this; omega
    have hleD := hle.trans ho.own.le
    refine hv.ld hleD rfl hlt fun x hx => own_ok hx hleD (hb _ (List.getElem_mem hlt)).2.2 fun t2 H2 hm => ?_
    have hsl : s.len = ys.length := by have := ho.own.own.1; simp at this; omega
    refine apd_ownF (zc := [slv Sl.nil]) (ho.own.own.le hm.le).off rfl (by dsimp only; omega) (by dsimp only; omega) fun r H3 h4 hr => ?_
    rw [w_i64 (by omega) (by omega)]
    refine ⟨⟨r, ys ++ [t2], by simp, ho.step hlt hm h4⟩, by first | omega | (dsimp only; omega)⟩
  have hyl : ys.length = ls.length := by have := of_decide_eq_false h; dsimp only at this; have := ho.le; omega
  obtain ⟨o1, o2, o3, o4⟩ := ho.own.own
  have hsl : s.len = ys.length := by simp at o1; omega
  rcases o4 with ⟨p0, c0⟩ | ⟨b, sp, hp, hbk, hc⟩
  · have h0 : s.len = 0 := by omega
    have hls : ls = [] := List.length_eq_zero_iff.1 (by omega)
    have hys : ys = [] := List.length_eq_zero_iff.1 (by omega)
    refine SR.sort_nil h0 (SR.compact_nil h0 (k _ _ [] ⟨?_, fun e he => (by cases he), ?_, ?_⟩))
    · have := ho.own; rw [hys] at this; exact this
    · rw [hls]; exact ⟨.nil, fun y hy => (by cases hy), fun x hx => (by cases hx), fun y hy => (by cases hy)⟩
    · exact Nat.zero_le _
  have hbF : H b = none := ho.own.fresh _ hp
  let H0 := D.off s
  have h0b : H0 b = none := Heap.off_fresh s D _ hp
  have hH0 : H.le H0 := Heap.le_off ho.own.le ho.own.fresh
  let L0 : List (Sl × (List V × Nat)) := ys.zip ls.zipIdx
  have hz1 : L0.map (fun e => e.1) = ys := List.map_fst_zip (by simp; omega)
  have hz2 : L0.map (fun e => e.2) = ls.zipIdx := List.map_snd_zip (by simp; omega)
  have hL0 : L0.length = ls.length := by have := congrArg List.length hz1; simp at this; omega
  have hflat : L0.flatMap SR.enc = ys.map slv := by
    have e : ∀ L : List (Sl × (List V × Nat)), L.flatMap SR.enc = (L.map (fun e => e.1)).map slv := fun L => by
      induction L with
      | nil => rfl
      | cons e L ih => rw [List.flatMap_cons, ih]; rfl
    rw [e, hz1]
  have hD : D = SR.arr H0 b sp L0 := by
    funext x
    by_cases hx : x = b
    · subst hx; unfold SR.arr; rw [Heap.put_same, hbk, hflat]
    · unfold SR.arr
      rw [Heap.put_ne _ _ _ hx]
      show D x = Heap.off s D x
      unfold Heap.off
      rw [if_neg]
      rw [hp]; simp; exact fun e => hx e.symm
  have hmem : ∀ e ∈ L0, Made H H0 e.2.1 e.1 ∧ e.2.1 ∈ ls := fun e he => by
    obtain ⟨i, hi, rfl⟩ := List.getElem_of_mem he
    have hi1 : i < ys.length := by omega
    have hi2 : i < ls.length := by omega
    have e1 : L0[i].1 = ys[i] := by show (ys.zip ls.zipIdx)[i].1 = _; rw [List.getElem_zip]
    have e2 : L0[i].2.1 = ls[i] := by show (ys.zip ls.zipIdx)[i].2.1 = _; rw [List.getElem_zip, List.getElem_zipIdx]
    rw [e1, e2]
    exact ⟨ho.done i _ _ (List.getElem?_eq_getElem hi2) (List.getElem?_eq_getElem hi1), List.getElem_mem hi2⟩
  let P : Sl × (List V × Nat) → Prop := fun e => VRow H0 e.1 e.2.1 ∧ VBs e.2.1 ∧ e.2.1.length ≤ 140737488355328
  have hP : ∀ e ∈ L0, P e := fun e he => by
    obtain ⟨m1, m2⟩ := hmem e he
    exact ⟨m1.row2, (hb _ m2).1, (hb _ m2).2.1⟩
  have hsls : SR.Sls s b ls.length := ⟨hp, o2, by omega, by omega⟩
  have hlin : Lin (fun a c : Sl × (List V × Nat) => cmpR a.2.1 c.2.1) P := (Lin.row.comp fun e : Sl × (List V × Nat) => e.2.1).sub fun _ _ => trivial
  have hι : L0.Pairwise fun x y => (fun e : Sl × (List V × Nat) => e.2.2) x < (fun e : Sl × (List V × Nat) => e.2.2) y := by
    have := zipIdx_asc ls
    rw [← hz2, List.pairwise_map] at this
    exact this
  rw [hD]
  refine SR.sort_ok (R := H0) (P := P) (κ := fun a c => cmpR a.2.1 c.2.1) (ι := fun e => e.2.2) ⟨hsls, Heap.le.refl _, h0b, ⟨fun B hB x y hx hy Φ hΦ => ?_⟩, hlin⟩ hL0 hP hι fun Z hZp hZs => ?_
  · have h : c_value_CmpRows C x.1 y.1 (fun r B => Φ (.int .i64 r) B) B := cmpRows_call (fun _ h => h) hB hx hy hΦ
    exact ⟨_, [], [], rfl, ok_value_CmpRows, Spec.mono h fun v B2 ⟨r, e, h⟩ => by rw [e]; exact h⟩
  have hZ : ∀ e ∈ Z, e ∈ L0 := fun e he => hZp.mem_iff.1 he
  have hPZ : ∀ e ∈ Z, P e := fun e he => hP e (hZ e he)
  have hrep := cmpct_ok hlin hZs hPZ
  refine SR.compact_ok (R := H0) (P := P) (κ := fun a c => cmpR a.2.1 c.2.1) hsls (by dsimp only; omega) (Heap.le.refl _) h0b ⟨fun B hB x y hx hy Φ hΦ => ?_⟩ (by rw [hZp.length_eq, hL0]) hPZ fun sp2 hsp => ?_
  · have h : c_value_Sort_1 C x.1 y.1 (fun r B => Φ (.bool r) B) B := by
      apply ad_value_Sort_1
      unfold sh_value_Sort_1
      exact cmpRows_call (fun _ h => h) hB hx hy hΦ
    exact ⟨_, [], [], rfl, ok_value_Sort_1, Spec.mono h fun v B2 ⟨r, e, h⟩ => by rw [e]; exact h⟩
  have hlz := hZp.length_eq
  have hcl := cmpct_len (κ := fun a c : Sl × (List V × Nat) => cmpR a.2.1 c.2.1) Z
  generalize hQ : cmpct (fun a c : Sl × (List V × Nat) => cmpR a.2.1 c.2.1) Z = Q at *
  have hfQ : Q.flatMap SR.enc = Q.map fun e => slv e.1 := by
    clear hrep hQ hsp hcl
    induction Q with
    | nil => rfl
    | cons e Q ih => rw [List.flatMap_cons, ih]; rfl
  have hup : H0.le ((SR.arr H0 b sp2 Q).off ⟨some (b, 0), Q.length, s.cap, none⟩) := fun x e hx => by
    have hne : x ≠ b := fun e' => by rw [e', h0b] at hx; cases hx
    refine Heap.off_some ?_ fun p hp' e' => ?_
    · unfold SR.arr; rw [Heap.put_ne _ _ _ hne]; exact hx
    · simp only [Option.some.injEq] at hp'
      subst hp'; exact hne e'.symm
  refine k _ _ Q ⟨⟨SR.arr_le hH0 hbF sp2 Q, ⟨by simp, rfl, by show Q.length ≤ s.cap; omega, .inr ⟨b, sp2, rfl, ?_, ?_⟩⟩, fun p hp' => ?_⟩, fun e he => ?_, ?_, by omega⟩
  · unfold SR.arr; rw [Heap.put_same, hfQ]
  · show s.cap * 1 ≤ _
    rw [List.length_append, List.length_map] at *
    omega
  · simp only [Option.some.injEq] at hp'
    subst hp'; exact hbF
  · exact (hmem e (hZ e (hrep.sub e he))).1.up hup
  · rw [← hz2]
    exact Rep.map (κ' := fun a b : List V × Nat => cmpR a.1 b.1) (ι' := fun a : List V × Nat => a.2) (f := fun e : Sl × (List V × Nat) => e.2) (fun _ _ => rfl) (fun _ => rfl) (hrep.perm hZp)
theorem Srt.rows {H2 : Heap} {ls : List (List V)} {t : Sl} {A : List (Sl × (List V × Nat))} (h : Srt H H2 ls t A) : VRows H2 t (A.map fun e => e.2.1) := by
  refine ⟨A.map fun e => e.1, ?_, by have := h.own.own.1; simp at this; simp; omega, by simp, fun i x l hx hl => ?_⟩
  · have := h.own.own.rdsl; rw [List.map_map]; exact this
  · rw [List.getElem?_map] at hx hl
    cases he : A[i]? with
    | none => rw [he] at hx; cases hx
    | some e =>
      rw [he] at hx hl
      simp only [Option.map_some, Option.some.injEq] at hx hl
      subst hx; subst hl
      exact (h.row e (List.mem_of_getElem? he)).row2.le (Heap.off_le _ _)
theorem Srt.mem {H2 : Heap} {ls : List (List V)} {t : Sl} {A : List (Sl × (List V × Nat))} (h : Srt H H2 ls t A) {l : List V} (hl : l ∈ A.map fun e => e.2.1) : l ∈ ls := by
  obtain ⟨e, he, rfl⟩ := List.mem_map.1 hl
  have := h.rep.sub e.2 (List.mem_map.2 ⟨e, he, rfl⟩)
  rw [List.mem_zipIdx_iff_getElem?] at this
  exact List.mem_of_getElem? this
theorem Srt.asc {H2 : Heap} {ls : List (List V)} {t : Sl} {A : List (Sl × (List V × Nat))} (h : Srt H H2 ls t A) : (A.map fun e => e.2.1).Pairwise fun a b => cmpR a b < 0 := by
  have := h.rep.asc
  rw [List.pairwise_map] at this ⊢
  exact this
end
end Sx
end

noncomputable section
set_option linter.unusedVariables false
set_option linter.unusedSimpArgs false
set_option maxRecDepth 10000
namespace Sx
open Go
def hexD (k : Nat) : UInt8 := if k < 10 then UInt8.ofNat (48 + k) else UInt8.ofNat (87 + k)
def qC (c : UInt8) : Str :=
  if c = 34 ∨ c = 92 then [92, c] else if c = 10 then [92, 110] else if c = 9 then [92, 116]
  else if 32 ≤ c.toNat ∧ c.toNat ≤ 126 then [c] else [92, 120, hexD (c.toNat / 16), hexD (c.toNat % 16)]
def quoteS (s : Str) : Str := 34 :: (s.flatMap qC ++ [34])
mutual
def showV : V → Str
  | .mk k n s l => if k = 1 then (if n = 1 then trueS else falseS) else if k = 2 then Lib.itoa n else if k = 3 then s ++ [98] else if k = 4 then quoteS s
    else if k = 5 then 40 :: (showR true l ++ [41]) else s ++ (if l.length = 0 then [] else 40 :: (showR true l ++ [41]))
def showR : Bool → List V → Str
  | _, [] => []
  | f, v :: l => (if f then [] else [44, 32]) ++ (showV v ++ showR false l)
end
theorem showR_snoc : ∀ (l : List V) (f : Bool) (v : V), showR f (l ++ [v]) = showR f l ++ ((if f && l.isEmpty then [] else [44, 32]) ++ showV v)
  | [], f, v => by cases f <;> simp [showR]
  | w :: l, f, v => by
    rw [List.cons_append]
    simp only [showR, showR_snoc l false v, List.isEmpty_cons, Bool.and_false, Bool.false_and, Bool.false_eq_true, if_false, List.append_assoc]
theorem showR_append : ∀ (a b : List V) (f : Bool), showR f (a ++ b) = showR f a ++ showR (f && a.isEmpty) b
  | [], b, f => by simp [showR]
  | v :: a, b, f => by
    rw [List.cons_append]
    simp only [showR, showR_append a b false, List.isEmpty_cons, Bool.and_false, Bool.false_and, List.append_assoc]
theorem showR_pre (l : List V) (i : Nat) : (showR true (l.take i)).length ≤ (showR true l).length := by
  have := congrArg List.length (showR_append (l.take i) (l.drop i) true)
  rw [List.take_append_drop, List.length_append] at this
  omega
theorem showR_take {l : List V} {i : Nat} (h : i < l.length) : showR true (l.take (i + 1)) = showR true (l.take i) ++ ((if i = 0 then [] else [44, 32]) ++ showV l[i]) := by
  rw [List.take_add_one, List.getElem?_eq_getElem h, Option.toList_some, showR_snoc]
  congr 2
  have e : (l.take i).isEmpty = decide (i = 0) := by
    rw [Bool.eq_iff_iff, List.isEmpty_iff, decide_eq_true_iff]
    refine ⟨fun h2 => ?_, fun h2 => by rw [h2]; rfl⟩
    have := congrArg List.length h2
    rw [List.length_take, List.length_nil] at this; omega
  rw [Bool.true_and, e]
  by_cases hi : i = 0 <;> simp [hi]

theorem ofNat_toNat {n : Nat} (h : n < 256) : (UInt8.ofNat n).toNat = n := by rw [UInt8.toNat_ofNat']; omega
def valN (l : Str) : Nat := l.foldl (fun a c => 10 * a + (c.toNat - 48)) 0
theorem dd_val (u : Nat) : valN (Lib.decDigits u) = u := by
  induction u using Nat.strongRecOn with
  | _ u ih =>
    rw [Lib.decDigits]
    split
    · rename_i h
      have := ofNat_toNat (n := 48 + u) (by omega)
      simp only [valN, List.foldl_cons, List.foldl_nil, this]; omega
    · rename_i h
      have e := ih (u / 10) (by omega)
      have := ofNat_toNat (n := 48 + u % 10) (by omega)
      unfold valN at e ⊢
      rw [List.foldl_append, e]
      simp only [List.foldl_cons, List.foldl_nil, this]; omega
theorem dd_dig (u : Nat) : (∀ c ∈ Lib.decDigits u, digC c = true) ∧ Lib.decDigits u ≠ [] := by
  induction u using Nat.strongRecOn with
  | _ u ih =>
    rw [Lib.decDigits]
    split
    · rename_i h
      refine ⟨fun c hc => ?_, by simp⟩
      rw [List.mem_singleton] at hc
      subst hc
      have := ofNat_toNat (n := 48 + u) (by omega)
      unfold digC
      rw [this]
      simp only [Bool.and_eq_true, decide_eq_true_eq]; omega
    · rename_i h
      refine ⟨fun c hc => ?_, by simp⟩
      rw [List.mem_append, List.mem_singleton] at hc
      rcases hc with hc | rfl
      · exact (ih (u / 10) (by omega)).1 c hc
      · have := ofNat_toNat (n := 48 + u % 10) (by omega)
        unfold digC
        rw [this]
        simp only [Bool.and_eq_true, decide_eq_true_eq]; omega
theorem dd_inj {u v : Nat} (h : Lib.decDigits u = Lib.decDigits v) : u = v := by rw [← dd_val u, h, dd_val v]
theorem itoa_inj {m n : Int} (h : Lib.itoa m = Lib.itoa n) : m = n := by
  have ne : ∀ u v : Nat, (45 : UInt8) :: Lib.decDigits u ≠ Lib.decDigits v := fun u v e => by
    have := (dd_dig v).1 45 (by rw [← e]; exact List.mem_cons_self ..)
    exact absurd this (by decide)
  unfold Lib.itoa at h
  split at h <;> split at h
  · injection h with _ h
    have := dd_inj h; omega
  · exact absurd h (ne _ _)
  · exact absurd h.symm (ne _ _)
  · have := dd_inj h; omega
theorem itoa_mem {n : Int} {c : UInt8} (h : c ∈ Lib.itoa n) : digC c = true ∨ c = 45 := by
  unfold Lib.itoa at h
  split at h
  · rcases List.mem_cons.1 h with h | h
    · exact .inr h
    · exact .inl ((dd_dig _).1 c h)
  · exact .inl ((dd_dig _).1 c h)
theorem itoa_ne (n : Int) : Lib.itoa n ≠ [] := by
  unfold Lib.itoa
  split
  · simp
  · exact (dd_dig _).2
theorem itoa_last (n : Int) : (Lib.itoa n).getLast? ≠ some 98 := fun h => by
  have hm := List.mem_of_getLast? h
  rcases itoa_mem hm with h | h
  · exact absurd h (by decide)
  · exact absurd h (by decide)

def stopC (c : UInt8) : Bool := c == 40 || c == 41 || c == 44 || c == 59 || c == 34
def tok : V → Str
  | .mk k n s l => if k = 1 then (if n = 1 then trueS else falseS) else if k = 2 then Lib.itoa n else if k = 3 then s ++ [98] else if k = 5 then [] else s
def rst : V → Str
  | .mk k n s l => if k = 5 ∨ (k = 6 ∧ l.length ≠ 0) then 40 :: (showR true l ++ [41]) else []
def kindT (t : Str) : Int := if t = [] then 5 else if lowC (t.headD 0) = true then (if t = trueS ∨ t = falseS then 1 else 6) else if t.getLast? = some 98 then 3 else 2
theorem ok_cases {v : V} (h : formV v = true) : formVs v.l = true ∧ ((v.k = 1 ∧ (v.n = 0 ∨ v.n = 1) ∧ v.s = [] ∧ v.l = []) ∨ (v.k = 2 ∧ v.s = [] ∧ v.l = []) ∨ (v.k = 3 ∧ numS v.s = true ∧ v.n = 0 ∧ v.l = []) ∨ (v.k = 4 ∧ v.n = 0 ∧ v.l = []) ∨
    (v.k = 5 ∧ v.n = 0 ∧ v.s = []) ∨ (v.k = 6 ∧ v.n = 0 ∧ namesS v.s = true)) := by
  rw [formV_eq, Bool.and_eq_true] at h
  obtain ⟨h, h2⟩ := h
  refine ⟨h2, ?_⟩
  unfold okN at h
  split at h
  · rename_i hk
    simp only [Bool.and_eq_true, Bool.or_eq_true, beq_iff_eq, List.isEmpty_iff, decide_eq_true_eq, List.length_eq_zero_iff] at h
    exact .inl ⟨hk, h.1.1, h.1.2, h.2⟩
  split at h
  · rename_i hk
    simp only [Bool.and_eq_true, beq_iff_eq, List.isEmpty_iff, decide_eq_true_eq, List.length_eq_zero_iff] at h
    exact .inr (.inl ⟨hk, h.1, h.2⟩)
  split at h
  · rename_i hk
    simp only [Bool.and_eq_true, beq_iff_eq, decide_eq_true_eq, List.length_eq_zero_iff] at h
    exact .inr (.inr (.inl ⟨hk, h.1.1, h.1.2, h.2⟩))
  split at h
  · rename_i hk
    simp only [Bool.and_eq_true, beq_iff_eq, decide_eq_true_eq, List.length_eq_zero_iff] at h
    exact .inr (.inr (.inr (.inl ⟨hk, h.1, h.2⟩)))
  split at h
  · rename_i hk
    simp only [Bool.and_eq_true, beq_iff_eq, List.isEmpty_iff] at h
    exact .inr (.inr (.inr (.inr (.inl ⟨hk, h.1.1, h.1.2⟩))))
  split at h
  · rename_i hk
    simp only [Bool.and_eq_true, beq_iff_eq] at h
    exact .inr (.inr (.inr (.inr (.inr ⟨hk, h.1, h.2⟩))))
  · cases h
theorem show_tok {v : V} (h : formV v = true) (h4 : v.k ≠ 4) : showV v = tok v ++ rst v := by
  have hc := (ok_cases h).2
  obtain ⟨k, n, s, l⟩ := v
  simp only [V.k, V.n, V.s, V.l] at hc h4
  simp only [showV, tok, rst]
  rcases hc with ⟨rfl, _, _, rfl⟩ | ⟨rfl, _, rfl⟩ | ⟨rfl, _, _, rfl⟩ | ⟨rfl, _⟩ | ⟨rfl, _⟩ | ⟨rfl, _⟩
  · simp
  · simp
  · simp
  · exact absurd rfl h4
  · simp
  · by_cases hl : l.length = 0 <;> simp [hl]
theorem nameC_stop {c : UInt8} (h : nameC c = true) : stopC c = false := by
  simp only [nameC, lowC, Bool.or_eq_true, Bool.and_eq_true, decide_eq_true_eq] at h
  unfold stopC
  simp only [Bool.or_eq_false_iff, beq_eq_false_iff_ne]
  refine ⟨⟨⟨⟨?_, ?_⟩, ?_⟩, ?_⟩, ?_⟩ <;> (rintro rfl; revert h; decide)
theorem digC_stop {c : UInt8} (h : digC c = true) : stopC c = false := nameC_stop (by
  simp only [digC, Bool.and_eq_true, decide_eq_true_eq] at h
  simp only [nameC, Bool.or_eq_true, Bool.and_eq_true, decide_eq_true_eq]
  exact .inl (.inr h))
theorem nameS_parts {s : Str} (h : nameS s = true) : s ≠ [] ∧ s.length ≤ 32 ∧ lowC (s.headD 0) = true ∧ ∀ c ∈ s, nameC c = true := by
  simp only [nameS, Bool.and_eq_true, Bool.not_eq_true', List.isEmpty_eq_false_iff, decide_eq_true_eq, List.all_eq_true] at h
  exact ⟨h.1.1.1, h.1.1.2, h.1.2, h.2⟩
theorem namesS_parts {s : Str} (h : namesS s = true) : s ≠ trueS ∧ s ≠ falseS ∧ s ≠ [] ∧ s.length ≤ 65 ∧ lowC (s.headD 0) = true ∧ ∀ c ∈ s, stopC c = false := by
  unfold namesS at h
  split at h
  · cases h
  rename_i hne
  refine ⟨fun e => hne (.inl e), fun e => hne (.inr e), ?_⟩
  split at h
  · rename_i a b hab
    rw [Bool.and_eq_true] at h
    obtain ⟨h1, h2, h3, h4⟩ := nameS_parts h.1
    obtain ⟨g1, g2, g3, g4⟩ := nameS_parts h.2
    have hs : s = a ++ 46 :: b := by
      by_cases hm : (46 : UInt8) ∈ s
      · obtain ⟨x, y, e1, e2⟩ := cutD_mem s hm
        rw [e1, cutD_at x y e2] at hab
        injection hab with hab; injection hab with e3 e4
        rw [e1, e3, e4]
      · rw [cutD_no s hm] at hab; cases hab
    rw [hs]
    refine ⟨by simp, by rw [List.length_append, List.length_cons]; omega, ?_, fun c hc => ?_⟩
    · cases a with
      | nil => exact absurd rfl h1
      | cons x a => exact h3
    · rw [List.mem_append, List.mem_cons] at hc
      rcases hc with hc | rfl | hc
      · exact nameC_stop (h4 c hc)
      · rfl
      · exact nameC_stop (g4 c hc)
  · obtain ⟨h1, h2, h3, h4⟩ := nameS_parts h
    exact ⟨h1, by omega, h3, fun c hc => nameC_stop (h4 c hc)⟩
theorem numS_parts {s : Str} (h : numS s = true) : s ≠ [] ∧ (∀ c ∈ s, digC c = true ∨ c = 45) ∧ s.length ≤ digits s + 1 := by
  simp only [numS, Bool.and_eq_true, Bool.not_eq_true', List.isEmpty_eq_false_iff, List.all_eq_true] at h
  obtain ⟨⟨h1, h2⟩, h3⟩ := h
  unfold digits
  unfold unmin at h1 h2 ⊢
  split at h1
  · rename_i hh
    rw [if_pos hh] at h2 ⊢
    cases s with
    | nil => cases hh
    | cons c s =>
      simp only [List.head?_cons, Option.some.injEq] at hh
      subst hh
      refine ⟨by simp, fun d hd => ?_, by simp⟩
      rcases List.mem_cons.1 hd with rfl | hd
      · exact .inr rfl
      · exact .inl (h2 d hd)
  · rename_i hh
    rw [if_neg hh] at h2 ⊢
    exact ⟨h1, fun d hd => .inl (h2 d hd), by omega⟩
theorem numC_stop {c : UInt8} (h : digC c = true ∨ c = 45) : stopC c = false ∧ lowC c = false := by
  rcases h with h | rfl
  · refine ⟨digC_stop h, ?_⟩
    simp only [digC, Bool.and_eq_true, decide_eq_true_eq] at h
    simp only [lowC, Bool.and_eq_false_iff, decide_eq_false_iff_not]; omega
  · exact ⟨rfl, rfl⟩
theorem headD_mem : ∀ {s : Str}, s ≠ [] → s.headD 0 ∈ s
  | [], h => absurd rfl h
  | c :: s, _ => List.mem_cons_self ..
theorem tok_free {v : V} (h : formV v = true) (h4 : v.k ≠ 4) : ∀ c ∈ tok v, stopC c = false := by
  have hc := (ok_cases h).2
  obtain ⟨k, n, s, l⟩ := v
  simp only [V.k, V.n, V.s, V.l] at hc h4
  intro c hm
  simp only [tok] at hm
  rcases hc with ⟨rfl, _, _, rfl⟩ | ⟨rfl, _, rfl⟩ | ⟨rfl, hn, _, rfl⟩ | ⟨rfl, _⟩ | ⟨rfl, _⟩ | ⟨rfl, _, hn⟩
  · rw [if_pos rfl] at hm
    split at hm
    · exact (by decide : ∀ c ∈ trueS, stopC c = false) c hm
    · exact (by decide : ∀ c ∈ falseS, stopC c = false) c hm
  · exact (numC_stop (itoa_mem (by simpa using hm))).1
  · have hm : c ∈ s ∨ c = 98 := by simpa using hm
    rcases hm with hm | rfl
    · exact (numC_stop ((numS_parts hn).2.1 c hm)).1
    · rfl
  · exact absurd rfl h4
  · simp at hm
  · exact (namesS_parts hn).2.2.2.2.2 c (by simpa using hm)
theorem kind_tok {v : V} (h : formV v = true) (h4 : v.k ≠ 4) : kindT (tok v) = v.k := by
  have hc := (ok_cases h).2
  obtain ⟨k, n, s, l⟩ := v
  simp only [V.k, V.n, V.s, V.l] at hc h4 ⊢
  simp only [tok]
  rcases hc with ⟨rfl, hn, rfl, rfl⟩ | ⟨rfl, _, rfl⟩ | ⟨rfl, hn, _, rfl⟩ | ⟨rfl, _⟩ | ⟨rfl, _⟩ | ⟨rfl, _, hn⟩
  · rcases hn with rfl | rfl <;> decide
  · have e : (if (2 : Int) = 1 then (if n = 1 then trueS else falseS) else if (2 : Int) = 2 then Lib.itoa n else if (2 : Int) = 3 then s ++ [98] else if (2 : Int) = 5 then [] else s) = Lib.itoa n := by simp
    rw [e]
    unfold kindT
    have hlow := (numC_stop (itoa_mem (headD_mem (itoa_ne n)))).2
    rw [if_neg (itoa_ne n), if_neg (by rw [hlow]; decide), if_neg (itoa_last n)]
  · have e : (if (3 : Int) = 1 then (if n = 1 then trueS else falseS) else if (3 : Int) = 2 then Lib.itoa n else if (3 : Int) = 3 then s ++ [98] else if (3 : Int) = 5 then [] else s) = s ++ [98] := by simp
    rw [e]
    obtain ⟨q1, q2, _⟩ := numS_parts hn
    have hlow : lowC ((s ++ [98]).headD 0) = false := by
      cases s with
      | nil => exact absurd rfl q1
      | cons c s => exact (numC_stop (q2 c (List.mem_cons_self ..))).2
    unfold kindT
    rw [if_neg (by simp), if_neg (by rw [hlow]; decide), if_pos (by simp)]
  · exact absurd rfl h4
  · simp [kindT]
  · have e : (if (6 : Int) = 1 then (if n = 1 then trueS else falseS) else if (6 : Int) = 2 then Lib.itoa n else if (6 : Int) = 3 then s ++ [98] else if (6 : Int) = 5 then [] else s) = s := by simp
    rw [e]
    obtain ⟨q1, q2, q3, _, q5, _⟩ := namesS_parts hn
    unfold kindT
    rw [if_neg q3, if_pos q5, if_neg (fun h => h.elim q1 q2)]
theorem tok_split : ∀ {a b x y : Str}, (∀ c ∈ a, stopC c = false) → (∀ c ∈ b, stopC c = false) → (x = [] ∨ ∃ c t, x = c :: t ∧ stopC c = true) → (y = [] ∨ ∃ c t, y = c :: t ∧ stopC c = true) → a ++ x = b ++ y → a = b ∧ x = y
  | [], [], x, y, _, _, _, _, e => ⟨rfl, e⟩
  | [], d :: b, x, y, _, hb, hx, _, e => by
    rcases hx with rfl | ⟨c, t, rfl, hc⟩
    · simp at e
    · injection e with e1 _
      rw [e1, hb d (List.mem_cons_self ..)] at hc; cases hc
  | d :: a, [], x, y, ha, _, _, hy, e => by
    rcases hy with rfl | ⟨c, t, rfl, hc⟩
    · simp at e
    · injection e with e1 _
      rw [← e1, ha d (List.mem_cons_self ..)] at hc; cases hc
  | c :: a, d :: b, x, y, ha, hb, hx, hy, e => by
    injection e with e1 e2
    obtain ⟨q1, q2⟩ := tok_split (fun c hc => ha c (List.mem_cons_of_mem _ hc)) (fun c hc => hb c (List.mem_cons_of_mem _ hc)) hx hy e2
    exact ⟨by rw [e1, q1], q2⟩

theorem hex_val : ∀ k : Fin 16, hexD k.val ≠ 34 ∧ ∀ j : Fin 16, hexD k.val = hexD j.val → k = j := by decide
theorem hexD_inj {i j : Nat} (hi : i < 16) (hj : j < 16) (h : hexD i = hexD j) : i = j := by
  have := (hex_val ⟨i, hi⟩).2 ⟨j, hj⟩ h
  exact congrArg Fin.val this
theorem qC_shape (c : UInt8) : ((c = 34 ∨ c = 92) ∧ qC c = [92, c]) ∨ (c = 10 ∧ qC c = [92, 110]) ∨ (c = 9 ∧ qC c = [92, 116]) ∨ (c ≠ 34 ∧ c ≠ 92 ∧ qC c = [c]) ∨ qC c = [92, 120, hexD (c.toNat / 16), hexD (c.toNat % 16)] := by
  unfold qC
  by_cases h1 : c = 34 ∨ c = 92
  · rw [if_pos h1]; exact .inl ⟨h1, rfl⟩
  rw [if_neg h1]
  by_cases h2 : c = 10
  · rw [if_pos h2]; exact .inr (.inl ⟨h2, rfl⟩)
  rw [if_neg h2]
  by_cases h3 : c = 9
  · rw [if_pos h3]; exact .inr (.inr (.inl ⟨h3, rfl⟩))
  rw [if_neg h3]
  split
  · exact .inr (.inr (.inr (.inl ⟨fun e => h1 (.inl e), fun e => h1 (.inr e), rfl⟩)))
  · exact .inr (.inr (.inr (.inr rfl)))
theorem u8_eq {c d : UInt8} (h : c.toNat = d.toNat) : c = d := UInt8.toNat_inj.1 h
theorem qC_inj {c d : UInt8} {x y : Str} (h : qC c ++ x = qC d ++ y) : c = d ∧ x = y := by
  rcases qC_shape c with ⟨hc, e⟩ | ⟨hc, e⟩ | ⟨hc, e⟩ | ⟨hc, hc2, e⟩ | e <;> rcases qC_shape d with ⟨hd, f⟩ | ⟨hd, f⟩ | ⟨hd, f⟩ | ⟨hd, hd2, f⟩ | f <;> rw [e, f] at h <;> simp only [List.cons_append, List.nil_append, List.cons.injEq] at h
  case inr.inr.inr.inr.inr.inr.inr.inr =>
    obtain ⟨_, _, h1, h2, h3⟩ := h
    have hc := c.toNat_lt; have hd := d.toNat_lt
    have := hexD_inj (by omega) (by omega) h1
    have := hexD_inj (by omega) (by omega) h2
    exact ⟨u8_eq (by omega), h3⟩
  case inl.inl => exact ⟨h.2.1, h.2.2⟩
  case inr.inr.inr.inl.inr.inr.inr.inl => exact h
  case inr.inl.inr.inl => exact ⟨by rw [hc, hd], h.2.2⟩
  case inr.inr.inl.inr.inr.inl => exact ⟨by rw [hc, hd], h.2.2⟩
  all_goals exfalso
  all_goals first
    | (obtain ⟨_, h1, _⟩ := h; subst_vars; simp_all; done)
    | (obtain ⟨h1, _⟩ := h; subst_vars; simp_all; done)
    | (obtain ⟨_, h1, _⟩ := h; rcases hc with rfl | rfl <;> simp_all; done)
    | (obtain ⟨_, h1, _⟩ := h; rcases hd with rfl | rfl <;> simp_all; done)
theorem qC_head (c : UInt8) : ∃ d t, qC c = d :: t ∧ d ≠ 34 := by
  rcases qC_shape c with ⟨_, e⟩ | ⟨_, e⟩ | ⟨_, e⟩ | ⟨h, _, e⟩ | e
  · exact ⟨_, _, e, by decide⟩
  · exact ⟨_, _, e, by decide⟩
  · exact ⟨_, _, e, by decide⟩
  · exact ⟨_, _, e, h⟩
  · exact ⟨_, _, e, by decide⟩
theorem qs_inj : ∀ {s t x y : Str}, s.flatMap qC ++ 34 :: x = t.flatMap qC ++ 34 :: y → s = t ∧ x = y
  | [], [], x, y, h => ⟨rfl, by injection h⟩
  | [], d :: t, x, y, h => by
    obtain ⟨e, u, h1, h2⟩ := qC_head d
    rw [List.flatMap_cons, h1] at h
    injection h with h _
    exact absurd h.symm h2
  | c :: s, [], x, y, h => by
    obtain ⟨e, u, h1, h2⟩ := qC_head c
    rw [List.flatMap_cons, h1] at h
    injection h with h _
    exact absurd h h2
  | c :: s, d :: t, x, y, h => by
    rw [List.flatMap_cons, List.flatMap_cons, List.append_assoc, List.append_assoc] at h
    obtain ⟨h1, h2⟩ := qC_inj h
    obtain ⟨h3, h4⟩ := qs_inj h2
    exact ⟨by rw [h1, h3], h4⟩

def EndS (r : Str) : Prop := r = [] ∨ ∃ c t, r = c :: t ∧ (c = 41 ∨ c = 44 ∨ c = 59)
theorem EndS.stop {r : Str} (h : EndS r) : r = [] ∨ ∃ c t, r = c :: t ∧ stopC c = true := h.imp id fun ⟨c, t, e, hc⟩ => ⟨c, t, e, by rcases hc with rfl | rfl | rfl <;> rfl⟩
theorem EndS.ne40 {r t : Str} (h : EndS r) : r ≠ 40 :: t := fun e => by
  rcases h with rfl | ⟨c, t', rfl, hc⟩
  · cases e
  · injection e with e _; subst e; revert hc; decide
theorem show_head {v : V} (h : formV v = true) : ∃ c t, showV v = c :: t ∧ c ≠ 41 ∧ (v.k ≠ 4 → c ≠ 34) := by
  by_cases h4 : v.k = 4
  · obtain ⟨k, n, s, l⟩ := v
    simp only [V.k] at h4
    subst h4
    exact ⟨34, s.flatMap qC ++ [34], by simp [showV, quoteS], by decide, fun h => absurd rfl h⟩
  · rw [show_tok h h4]
    have hf := tok_free h h4
    cases ht : tok v with
    | cons c t =>
      have := hf c (by rw [ht]; exact List.mem_cons_self ..)
      exact ⟨c, t ++ rst v, rfl, (fun e => by rw [e] at this; cases this), (fun _ e => by rw [e] at this; cases this)⟩
    | nil =>
      have hk := kind_tok h h4
      rw [ht] at hk
      have hk : v.k = 5 := hk.symm
      obtain ⟨k, n, s, l⟩ := v
      simp only [V.k] at hk
      subst hk
      exact ⟨40, showR true l ++ [41], by simp [rst], by decide, fun _ => by decide⟩
theorem rst_stop (v : V) (r : Str) (hr : EndS r) : rst v ++ r = [] ∨ ∃ c t, rst v ++ r = c :: t ∧ stopC c = true := by
  obtain ⟨k, n, s, l⟩ := v
  simp only [rst]
  split
  · exact .inr ⟨40, _, rfl, rfl⟩
  · exact hr.stop
theorem showR_inj : ∀ (l : List V), (∀ v ∈ l, ∀ (w : V) (r r' : Str), formV v = true → formV w = true → EndS r → EndS r' → showV v ++ r = showV w ++ r' → v = w ∧ r = r') →
    ∀ (f : Bool) (l' : List V) (r r' : Str), formVs l = true → formVs l' = true → showR f l ++ 41 :: r = showR f l' ++ 41 :: r' → l = l' ∧ r = r'
  | [], _, f, [], r, r', _, _, e => ⟨rfl, by simpa [showR] using e⟩
  | [], _, f, w :: l', r, r', _, h2, e => by
    exfalso
    simp only [formVs, Bool.and_eq_true] at h2
    obtain ⟨c, t, hw, hc, _⟩ := show_head h2.1
    simp only [showR, List.nil_append] at e
    cases f with
    | true =>
      rw [hw] at e
      simp only [if_true, List.nil_append, List.cons_append, List.cons.injEq] at e
      exact hc e.1.symm
    | false => simp at e
  | v :: l, _, f, [], r, r', h1, _, e => by
    exfalso
    simp only [formVs, Bool.and_eq_true] at h1
    obtain ⟨c, t, hw, hc, _⟩ := show_head h1.1
    simp only [showR, List.nil_append] at e
    cases f with
    | true =>
      rw [hw] at e
      simp only [if_true, List.nil_append, List.cons_append, List.cons.injEq] at e
      exact hc e.1
    | false => simp at e
  | v :: l, ih, f, w :: l', r, r', h1, h2, e => by
    simp only [formVs, Bool.and_eq_true] at h1 h2
    simp only [showR, List.append_assoc] at e
    have e := List.append_cancel_left e
    have hend : ∀ (l : List V) (r : Str), EndS (showR false l ++ 41 :: r) := fun l r => by
      cases l with
      | nil => exact .inr ⟨41, r, rfl, .inl rfl⟩
      | cons x l => exact .inr ⟨44, _, rfl, .inr (.inl rfl)⟩
    obtain ⟨q1, q2⟩ := ih v (List.mem_cons_self ..) w _ _ h1.1 h2.1 (hend l r) (hend l' r') e
    obtain ⟨q3, q4⟩ := showR_inj l (fun v hv => ih v (List.mem_cons_of_mem _ hv)) false l' r r' h1.2 h2.2 q2
    exact ⟨by rw [q1, q3], q4⟩
theorem show_inj (v : V) : ∀ (w : V) (r r' : Str), formV v = true → formV w = true → EndS r → EndS r' → showV v ++ r = showV w ++ r' → v = w ∧ r = r' := by
  refine V.rec_ (P := fun v => ∀ (w : V) (r r' : Str), formV v = true → formV w = true → EndS r → EndS r' → showV v ++ r = showV w ++ r' → v = w ∧ r = r') (fun v ih w r r' hv hw hr hr' e => ?_) v
  have hcv := ok_cases hv
  have hcw := ok_cases hw
  by_cases h4 : v.k = 4
  · by_cases k4 : w.k = 4
    · obtain ⟨k, n, s, l⟩ := v
      obtain ⟨k', n', s', l'⟩ := w
      simp only [V.k, V.n, V.s, V.l] at *
      subst h4; subst k4
      obtain ⟨_, rfl, rfl⟩ : (4 : Int) = 4 ∧ n = 0 ∧ l = [] := by rcases hcv.2 with ⟨h, _⟩ | ⟨h, _⟩ | ⟨h, _⟩ | h | ⟨h, _⟩ | ⟨h, _⟩ <;> first | exact h | exact absurd h (by decide)
      obtain ⟨_, rfl, rfl⟩ : (4 : Int) = 4 ∧ n' = 0 ∧ l' = [] := by rcases hcw.2 with ⟨h, _⟩ | ⟨h, _⟩ | ⟨h, _⟩ | h | ⟨h, _⟩ | ⟨h, _⟩ <;> first | exact h | exact absurd h (by decide)
      simp only [showV, quoteS] at e
      simp only [show ¬ ((4 : Int) = 1) by decide, show ¬ ((4 : Int) = 2) by decide, show ¬ ((4 : Int) = 3) by decide, if_false, if_true, List.cons_append, List.append_assoc, List.cons.injEq, true_and, List.nil_append] at e
      obtain ⟨q1, q2⟩ := qs_inj e
      exact ⟨by rw [q1], q2⟩
    · exfalso
      obtain ⟨c, t, e1, _, e2⟩ := show_head hw
      obtain ⟨k, n, s, l⟩ := v
      simp only [V.k] at h4
      subst h4
      rw [e1] at e
      simp [showV, quoteS] at e
      exact e2 k4 e.1.symm
  · by_cases k4 : w.k = 4
    · exfalso
      obtain ⟨c, t, e1, _, e2⟩ := show_head hv
      obtain ⟨k, n, s, l⟩ := w
      simp only [V.k] at k4
      subst k4
      rw [e1] at e
      simp [showV, quoteS] at e
      exact e2 h4 e.1
    · rw [show_tok hv h4, show_tok hw k4, List.append_assoc, List.append_assoc] at e
      obtain ⟨q1, q2⟩ := tok_split (tok_free hv h4) (tok_free hw k4) (rst_stop v r hr) (rst_stop w r' hr') e
      have hkk : v.k = w.k := by rw [← kind_tok hv h4, ← kind_tok hw k4, q1]
      obtain ⟨k, n, s, l⟩ := v
      obtain ⟨k', n', s', l'⟩ := w
      simp only [V.k, V.n, V.s, V.l] at *
      subst hkk
      simp only [tok] at q1
      simp only [rst] at q2
      have tails : ∀ (l l' : List V), formVs l = true → formVs l' = true → (∀ v ∈ l, ∀ (w : V) (r r' : Str), formV v = true → formV w = true → EndS r → EndS r' → showV v ++ r = showV w ++ r' → v = w ∧ r = r') →
          40 :: (showR true l ++ [41]) ++ r = 40 :: (showR true l' ++ [41]) ++ r' → l = l' ∧ r = r' := fun l l' f1 f2 ih e => by
        simp only [List.cons_append, List.append_assoc, List.cons.injEq, true_and, List.nil_append] at e
        exact showR_inj l ih true l' r r' f1 f2 e
      rcases hcv.2 with ⟨rfl, a1, a2, a3⟩ | ⟨rfl, a1, a2⟩ | ⟨rfl, a1, a2, a3⟩ | ⟨rfl, _⟩ | ⟨rfl, a1, a2⟩ | ⟨rfl, a1, a2⟩
      · obtain ⟨b1, b2, b3⟩ : (n' = 0 ∨ n' = 1) ∧ s' = [] ∧ l' = [] := by rcases hcw.2 with ⟨_, h⟩ | ⟨h, _⟩ | ⟨h, _⟩ | ⟨h, _⟩ | ⟨h, _⟩ | ⟨h, _⟩ <;> first | exact h | exact absurd h (by decide)
        subst a2; subst a3; subst b2; subst b3
        simp at q2
        refine ⟨?_, q2⟩
        rcases a1 with rfl | rfl <;> rcases b1 with rfl | rfl <;> first | rfl | exact absurd q1 (by decide)
      · obtain ⟨b1, b2⟩ : s' = [] ∧ l' = [] := by rcases hcw.2 with ⟨h, _⟩ | ⟨_, h⟩ | ⟨h, _⟩ | ⟨h, _⟩ | ⟨h, _⟩ | ⟨h, _⟩ <;> first | exact h | exact absurd h (by decide)
        subst a1; subst a2; subst b1; subst b2
        simp at q2 q1
        exact ⟨by rw [itoa_inj q1], q2⟩
      · obtain ⟨_, b2, b3⟩ : numS s' = true ∧ n' = 0 ∧ l' = [] := by rcases hcw.2 with ⟨h, _⟩ | ⟨h, _⟩ | ⟨_, h⟩ | ⟨h, _⟩ | ⟨h, _⟩ | ⟨h, _⟩ <;> first | exact h | exact absurd h (by decide)
        subst a2; subst a3; subst b2; subst b3
        simp at q2 q1
        exact ⟨by rw [q1], q2⟩
      · exact absurd rfl h4
      · obtain ⟨b1, b2⟩ : n' = 0 ∧ s' = [] := by rcases hcw.2 with ⟨h, _⟩ | ⟨h, _⟩ | ⟨h, _⟩ | ⟨h, _⟩ | ⟨_, h⟩ | ⟨h, _⟩ <;> first | exact h | exact absurd h (by decide)
        subst a1; subst a2; subst b1; subst b2
        rw [if_pos (.inl rfl), if_pos (.inl rfl)] at q2
        obtain ⟨q3, q4⟩ := tails l l' hcv.1 hcw.1 ih q2
        exact ⟨by rw [q3], q4⟩
      · obtain ⟨b1, _⟩ : n' = 0 ∧ namesS s' = true := by rcases hcw.2 with ⟨h, _⟩ | ⟨h, _⟩ | ⟨h, _⟩ | ⟨h, _⟩ | ⟨h, _⟩ | ⟨_, h⟩ <;> first | exact h | exact absurd h (by decide)
        subst a1; subst b1
        simp only [show ¬ ((6 : Int) = 1) by decide, show ¬ ((6 : Int) = 2) by decide, show ¬ ((6 : Int) = 3) by decide, show ¬ ((6 : Int) = 5) by decide, if_false] at q1
        simp only [show ¬ ((6 : Int) = 5) by decide, false_or, true_and] at q2
        subst q1
        by_cases c1 : l.length = 0 <;> by_cases c2 : l'.length = 0
        · rw [if_neg (by simpa using c1), if_neg (by simpa using c2)] at q2
          rw [List.length_eq_zero_iff.1 c1, List.length_eq_zero_iff.1 c2]
          exact ⟨rfl, q2⟩
        · rw [if_neg (by simpa using c1), if_pos c2, List.nil_append] at q2
          exact absurd q2 hr.ne40
        · rw [if_pos c1, if_neg (by simpa using c2), List.nil_append] at q2
          exact absurd q2.symm hr'.ne40
        · rw [if_pos c1, if_pos c2] at q2
          obtain ⟨q3, q4⟩ := tails l l' hcv.1 hcw.1 ih q2
          exact ⟨by rw [q3], q4⟩
end Sx
end

noncomputable section
set_option linter.unusedVariables false
set_option linter.unusedSimpArgs false
set_option maxRecDepth 10000
namespace Sx
open Go Go.Proofs
section
variable {C : Ctx} {H : Heap}
theorem copyCheck_ok {b : Nat} {p : Option (Nat × Nat)} {s : Sl} {K : Heap → Prop} (hb : H b = some (true, .trow tyB 0 [pv p, slv s])) (hp : p = none ∨ p = some (b, 0)) (k : K (H.put b (.trow tyB 0 [pv (some (b, 0)), slv s]))) : c_strings_Builder_copyCheck C (some (b, 0)) K H := by
  apply ad_strings_Builder_copyCheck
  unfold sh_strings_Builder_copyCheck
  refine ⟨_, rfl, p, by simp [rd, hb, GO.cells?], ?_⟩
  rcases hp with rfl | rfl
  · exact ift_pos rfl ⟨(b, 0), rfl, ⟨true, _, 0, _, hb, by simp⟩, ⟨true, 0, _, hb, rfl, rfl⟩, _, rfl, _, 0, _, hb, Nat.le_refl _, by simp, k⟩
  · refine ift_neg rfl ⟨_, rfl, some (b, 0), by simp [rd, hb, GO.cells?], (b, 0), rfl, rfl, ift_neg rfl ?_⟩
    have : H.put b (.trow tyB 0 [pv (some (b, 0)), slv s]) = H := Heap.put_id hb
    rw [this] at k; exact k

theorem rd_buf {H : Heap} {b : Nat} {p : Option (Nat × Nat)} {s : Sl} {t : TypeId} (hb : H b = some (true, .trow t 0 [pv p, slv s])) : rd H (b, 0 + 1) = some (slv s) := by simp [rd, hb, GO.cells?]

theorem WriteByte_ok {b : Nat} {bs : Str} {c : UInt8} {K : Value → Heap → Prop} (h : IsB tyB tyE H b bs) (hl : bs.length + 1 ≤ 140737488355328) (k : K .nilIface (H.put b (Bd (bs ++ [c])))) : c_strings_Builder_WriteByte C (some (b, 0)) (c.toNat : Int) K H := by
  apply c_strings_Builder_WriteByte.gh
  refine h.open_ fun p s H' ho => ?_
  refine ad_strings_Builder_WriteByte _ _ _ _ _ ?_
  unfold sh_strings_Builder_WriteByte
  refine copyCheck_ok ho.row ho.self ?_
  have ho2 := ho.setP (p2 := some (b, 0)) (.inr rfl)
  refine ⟨_, rfl, s, rd_buf ho2.row, ?_⟩
  refine ho2.apd (by obtain ⟨g, hg⟩ := h.some; exact ⟨_, hg⟩) (ys := [c]) (by simpa using hl) fun r H3 h3 hr => ?_
  exact ⟨_, rfl, _, 0, _, hr, Nat.zero_le _, by simp, _, Gh.hideB h3, k⟩

theorem WriteString_ok {b : Nat} {bs c : Str} {K : Int → Value → Heap → Prop} (h : IsB tyB tyE H b bs) (hl : bs.length + c.length ≤ 140737488355328) (k : K (c.length : Int) .nilIface (H.put b (Bd (bs ++ c)))) : c_strings_Builder_WriteString C (some (b, 0)) c K H := by
  apply c_strings_Builder_WriteString.gh
  refine h.open_ fun p s H' ho => ?_
  refine ad_strings_Builder_WriteString _ _ _ _ _ ?_
  unfold sh_strings_Builder_WriteString
  refine copyCheck_ok ho.row ho.self ?_
  have ho2 := ho.setP (p2 := some (b, 0)) (.inr rfl)
  refine ⟨_, rfl, s, rd_buf ho2.row, ?_⟩
  refine ho2.apd (by obtain ⟨g, hg⟩ := h.some; exact ⟨_, hg⟩) (ys := c) hl fun r H3 h3 hr => ?_
  exact ⟨_, rfl, _, 0, _, hr, Nat.zero_le _, by simp, _, Gh.hideB h3, k⟩

theorem String_ok {b : Nat} {bs : Str} {K : Str → Heap → Prop} (h : IsB tyB tyE H b bs) (hl : bs.length ≤ 9223372036854775807) (k : K bs (H.put b (Bd bs))) : c_strings_Builder_String C (some (b, 0)) K H := by
  apply c_strings_Builder_String.gh
  refine h.open_ fun p s H' ho => ?_
  refine ad_strings_Builder_String _ _ _ _ ?_
  unfold sh_strings_Builder_String
  obtain ⟨e1, e2, e3⟩ := ho.slen
  have hrd : rd (H'.hide s) (b, 0 + 1) = some (slv s) := by
    have : (H'.hide s) b = H' b := by
      unfold Heap.hide
      split
      · rename_i q hq; rw [if_neg (fun e => ho.ne q hq e.symm)]
      · rfl
    simp [rd, this, ho.row, GO.cells?]
  refine ⟨H'.hide s, Heap.hide_le _ _, _, rfl, s, hrd, ⟨e3, e2⟩, _, rfl, s, hrd, ?_⟩
  rcases ho.buf with ⟨rfl, rfl⟩ | ⟨g, kk, row, hg, rfl, hgr, hk, hr0, hrl, hcs⟩
  · exact .inl ⟨rfl, Heap.hide_le _ _, _, Gh.hideB ho, k⟩
  · by_cases h0 : bs = []
    · subst h0
      exact .inl ⟨rfl, Heap.hide_le _ _, _, Gh.hideB ho, k⟩
    · refine .inr ⟨g, kk, row, bs, rfl, hgr, rfl, h0, hl, hcs, fun x v hx => ?_, _, Gh.hideB (b := b) (T := tyB) (e := tyE) (bs := bs) (p := p) (s := ⟨some (g, 0), bs.length, row.length, none⟩) ?_, k⟩
      · have hxg : x ≠ g := fun e => by subst e; simp [Heap.hide] at hx
        rw [Heap.put_ne _ _ _ hxg]; exact (Heap.hide_le _ _) _ _ hx
      · refine ⟨ho.self, by rw [Heap.put_ne _ _ _ (Ne.symm hg)]; exact ho.row, .inr ⟨g, max kk bs.length, row, hg, rfl, Heap.put_same .., by omega, hr0, hrl, hcs⟩, ho.gnot, fun x v hx hv => ?_⟩
        have hxg : x ≠ g := fun e => by subst e; have := ho.gnot (x, 0) rfl; dsimp only at this; rw [this] at hv; cases hv
        rw [Heap.put_ne _ _ _ hxg]; exact ho.but x v hx hv
end
end Sx
end

noncomputable section
set_option linter.unusedVariables false
set_option linter.unusedSimpArgs false
set_option maxRecDepth 10000
namespace Sx
open Go Go.Proofs
section
variable {C : Ctx} {H : Heap}
theorem FormatBool_ok {b : Bool} {K : Str → Heap → Prop} (k : K (if b then trueS else falseS) H) : c_strconv_FormatBool C b K H := by
  apply ad_strconv_FormatBool
  unfold sh_strconv_FormatBool
  apply ad_internal_strconv_FormatBool
  unfold sh_internal_strconv_FormatBool
  cases b with
  | true => exact ift_pos rfl k
  | false => exact ift_neg rfl k
theorem hexS {k : Nat} (h : k < 16) : ([48, 49, 50, 51, 52, 53, 54, 55, 56, 57, 97, 98, 99, 100, 101, 102] : Str)[k]? = some (hexD k) := by
  have : ∀ k : Fin 16, ([48, 49, 50, 51, 52, 53, 54, 55, 56, 57, 97, 98, 99, 100, 101, 102] : Str)[k.val]? = some (hexD k.val) := by decide
  exact this ⟨k, h⟩
theorem shr4 : ∀ c : UInt8, sShr .u8 (c.toNat : Int) 4 = ((c.toNat / 16 : Nat) : Int) := by
  have : ∀ k : Fin 256, sShr .u8 (k.val : Int) 4 = ((k.val / 16 : Nat) : Int) := by decide +kernel
  exact fun c => this ⟨c.toNat, c.toNat_lt⟩
theorem and15 : ∀ c : UInt8, bAnd .u8 (c.toNat : Int) 15 = ((c.toNat % 16 : Nat) : Int) := by
  have : ∀ k : Fin 256, bAnd .u8 (k.val : Int) 15 = ((k.val % 16 : Nat) : Int) := by decide +kernel
  exact fun c => this ⟨c.toNat, c.toNat_lt⟩
/-- over A, of which b is not, the builder b holds bs -/
structure Wr (A B : Heap) (b : Nat) (bs : Str) : Prop where
  le : A.le B
  nb : A b = none
  bl : IsB tyB tyE B b bs
theorem Wr.up {A B D : Heap} {b : Nat} {bs : Str} (h : Wr A B b bs) (hle : B.le D) : Wr A D b bs := ⟨h.le.trans hle, h.nb, h.bl.le hle⟩
theorem Wr.byte {A B : Heap} {b : Nat} {bs : Str} {c : UInt8} {i : Int} {K : Value → Heap → Prop} (h : Wr A B b bs) (hi : i = (c.toNat : Int)) (hl : bs.length + 1 ≤ 140737488355328) (k : ∀ D, Wr A D b (bs ++ [c]) → K .nilIface D) : c_strings_Builder_WriteByte C (some (b, 0)) i K B := by
  subst hi
  exact WriteByte_ok h.bl hl (k _ ⟨h.le.put _ _ h.nb, h.nb, IsB.put⟩)
theorem Wr.str {A B : Heap} {b : Nat} {bs s : Str} {K : Int → Value → Heap → Prop} (h : Wr A B b bs) (hl : bs.length + s.length ≤ 140737488355328) (k : ∀ D, Wr A D b (bs ++ s) → K (s.length : Int) .nilIface D) : c_strings_Builder_WriteString C (some (b, 0)) s K B :=
  WriteString_ok h.bl hl (k _ ⟨h.le.put _ _ h.nb, h.nb, IsB.put⟩)
theorem qC_len (c : UInt8) : 1 ≤ (qC c).length ∧ (qC c).length ≤ 4 := by
  rcases qC_shape c with ⟨_, e⟩ | ⟨_, e⟩ | ⟨_, e⟩ | ⟨_, _, e⟩ | e <;> rw [e] <;> simp
theorem quote_ok {A B : Heap} {b : Nat} {bs s : Str} {K : Heap → Prop} (h : Wr A B b bs) (hl : bs.length + (quoteS s).length ≤ 140737488355328) (k : ∀ D, Wr A D b (bs ++ quoteS s) → K D) : c_value_quote C (some (b, 0)) s K B := by
  apply ad_value_quote
  unfold sh_value_quote
  have hql : (quoteS s).length = (s.flatMap qC).length + 2 := by simp [quoteS]
  have hpre : ∀ i, ((s.take i).flatMap qC).length ≤ (s.flatMap qC).length := fun i => by
    have := congrArg List.length (congrArg (List.flatMap qC) (List.take_append_drop i s))
    rw [List.flatMap_append, List.length_append] at this; omega
  have hsl : s.length ≤ (s.flatMap qC).length := by
    clear hl k hql hpre
    induction s with
    | nil => exact Nat.le_refl _
    | cons c s ih =>
      have := (qC_len c).1
      rw [List.flatMap_cons, List.length_append, List.length_cons]; omega
  refine h.byte (c := 34) rfl (by omega) fun B1 h1 => ?_
  refine ⟨fun x D => ∃ i : Nat, x = (i : Int) ∧ i ≤ s.length ∧ Wr A D b (bs ++ [34] ++ (s.take i).flatMap qC), fun x _ => s.length - x.toNat, ⟨0, rfl, Nat.zero_le _, by simpa using h1⟩, ?_⟩
  rintro _ D ⟨i, rfl, hi, hw⟩
  refine ift.of (fun hlt => ?_) (fun hlt => ?_)
  · have hlt : i < s.length := by have := of_decide_eq_true hlt; omega
    have hstep : (s.take (i + 1)).flatMap qC = (s.take i).flatMap qC ++ qC s[i] := by
      rw [List.take_add_one, List.getElem?_eq_getElem hlt, Option.toList_some, List.flatMap_append, List.flatMap_singleton]
    have hnl := hpre (i + 1)
    rw [hstep, List.length_append] at hnl
    have hcur : (bs ++ [34] ++ (s.take i).flatMap qC).length = bs.length + 1 + ((s.take i).flatMap qC).length := by simp only [List.length_append, List.length_singleton]
    refine ⟨fun _ E => Wr A E b (bs ++ [34] ++ (s.take (i + 1)).flatMap qC), ?_, ?_⟩
    · refine ⟨s[i], by omega, by rw [Int.toNat_natCast]; exact List.getElem?_eq_getElem hlt, ?_⟩
      rw [hstep, ← List.append_assoc]
      generalize s[i] = c at *
      generalize bs ++ [34] ++ (s.take i).flatMap qC = cur at *
      have e34 : ((c.toNat : Int) == 34) = decide (c = 34) := by
        rw [Bool.eq_iff_iff, beq_iff_eq, decide_eq_true_iff]
        exact ⟨fun h => u8_eq (by show c.toNat = 34; omega), fun h => by rw [h]; rfl⟩
      have e92 : ((c.toNat : Int) == 92) = decide (c = 92) := by
        rw [Bool.eq_iff_iff, beq_iff_eq, decide_eq_true_iff]
        exact ⟨fun h => u8_eq (by show c.toNat = 92; omega), fun h => by rw [h]; rfl⟩
      have e10 : ((c.toNat : Int) == 10) = decide (c = 10) := by
        rw [Bool.eq_iff_iff, beq_iff_eq, decide_eq_true_iff]
        exact ⟨fun h => u8_eq (by show c.toNat = 10; omega), fun h => by rw [h]; rfl⟩
      have e9 : ((c.toNat : Int) == 9) = decide (c = 9) := by
        rw [Bool.eq_iff_iff, beq_iff_eq, decide_eq_true_iff]
        exact ⟨fun h => u8_eq (by show c.toNat = 9; omega), fun h => by rw [h]; rfl⟩
      rw [e34, e92, e10, e9]
      have hq4 := (qC_len c).2
      refine ift.of (fun c1 => ?_) (fun c1 => ?_)
      · simp only [Bool.or_eq_true, decide_eq_true_eq] at c1
        have e : qC c = [92, c] := by unfold qC; rw [if_pos c1]
        rw [e] at hnl ⊢
        simp only [List.length_cons, List.length_nil] at hnl
        refine hw.byte (c := 92) rfl (by omega) fun D1 h2 => h2.byte (c := c) rfl (by simp; omega) fun D2 h3 => ?_
        simpa using h3
      simp only [Bool.or_eq_false_iff, decide_eq_false_iff_not] at c1
      have c1' : ¬ (c = 34 ∨ c = 92) := fun h => h.elim c1.1 c1.2
      refine ift.of (fun c2 => ?_) (fun c2 => ?_)
      · have c2 := of_decide_eq_true c2
        have e : qC c = [92, 110] := by unfold qC; rw [if_neg c1', if_pos c2]
        rw [e] at hnl ⊢
        simp only [List.length_cons, List.length_nil] at hnl
        exact hw.str (s := [92, 110]) (by simp; omega) fun D1 h2 => h2
      have c2 := of_decide_eq_false c2
      refine ift.of (fun c3 => ?_) (fun c3 => ?_)
      · have c3 := of_decide_eq_true c3
        have e : qC c = [92, 116] := by unfold qC; rw [if_neg c1', if_neg c2, if_pos c3]
        rw [e] at hnl ⊢
        simp only [List.length_cons, List.length_nil] at hnl
        exact hw.str (s := [92, 116]) (by simp; omega) fun D1 h2 => h2
      have c3 := of_decide_eq_false c3
      refine ift.of (fun c4 => ?_) (fun c4 => ?_)
      · simp only [Bool.and_eq_true, decide_eq_true_eq] at c4
        have e : qC c = [c] := by unfold qC; rw [if_neg c1', if_neg c2, if_neg c3, if_pos (by omega)]
        rw [e] at hnl ⊢
        simp only [List.length_cons, List.length_nil] at hnl
        exact hw.byte (c := c) rfl (by omega) fun D1 h2 => h2
      · simp only [Bool.and_eq_false_iff, decide_eq_false_iff_not] at c4
        have e : qC c = [92, 120, hexD (c.toNat / 16), hexD (c.toNat % 16)] := by unfold qC; rw [if_neg c1', if_neg c2, if_neg c3, if_neg (by omega)]
        rw [e] at hnl ⊢
        simp only [List.length_cons, List.length_nil] at hnl
        have hct := c.toNat_lt
        refine hw.str (s := [92, 120]) (by simp; omega) fun D1 h2 => ?_
        rw [shr4, and15]
        refine ⟨hexD (c.toNat / 16), by omega, by rw [Int.toNat_natCast]; exact hexS (by omega), ?_⟩
        refine h2.byte (c := hexD (c.toNat / 16)) rfl (by simp; omega) fun D2 h3 => ?_
        refine ⟨hexD (c.toNat % 16), by omega, by rw [Int.toNat_natCast]; exact hexS (by omega), ?_⟩
        refine h3.byte (c := hexD (c.toNat % 16)) rfl (by simp; omega) fun D3 h4 => ?_
        simpa using h4
    · rintro _ E hE
      rw [w_i64 (by omega) (by omega)]
      exact ⟨⟨i + 1, by omega, by omega, hE⟩, by first | omega | (dsimp only; omega)⟩
  · have hie : i = s.length := by have := of_decide_eq_false hlt; omega
    rw [hie, List.take_length] at hw
    refine hw.byte (c := 34) rfl (by simp only [List.length_append, List.length_singleton]; omega) fun E hE => k E ?_
    simpa [quoteS] using hE
/-- the two closures, each in the other's cell -/
structure Clo (C : Ctx) (A : Heap) (b p q : Nat) : Prop where
  list : ∃ x, rd A (p, 0) = some x ∧ ∀ (t : Sl) (B : Heap) (Φ : Value → Heap → Prop), c_value_Show_1 C t (b, 0) (q, 0) (fun D => Φ (.tuple #[]) D) B → callU Tryd.prog C x [slv t] B Φ
  show_ : ∃ x, rd A (q, 0) = some x ∧ ∀ (v : TV) (B : Heap) (Φ : Value → Heap → Prop), c_value_Show_2 C v (b, 0) (p, 0) (fun D => Φ (.tuple #[]) D) B → callU Tryd.prog C x [.agg (T_api_Value.c v).toArray] B Φ
variable {A B : Heap} {b p q : Nat}
theorem Clo.le {A1 : Heap} (h : Clo C A b p q) (hle : A.le A1) : Clo C A1 b p q := by
  obtain ⟨⟨x, h1, h2⟩, y, h3, h4⟩ := h
  exact ⟨⟨x, rd_le hle h1, h2⟩, y, rd_le hle h3, h4⟩
theorem Wr.box {bs : Str} {b1 : Nat} {x : TV} (h : Wr A B b bs) (n1 : B b1 = none) :
    Wr (A.put b1 (.row (T_api_Value.c x))) (B.put b1 (.row (T_api_Value.c x))) b bs ∧ A.le (A.put b1 (.row (T_api_Value.c x))) ∧ (A.put b1 (.row (T_api_Value.c x))) b1 = some (true, .row (T_api_Value.c x)) := by
  have hne : b ≠ b1 := fun e => by
    obtain ⟨g, hg⟩ := h.bl.some
    rw [e, n1] at hg; cases hg
  refine ⟨⟨fun z e hz => ?_, by rw [Heap.put_ne _ _ _ hne]; exact h.nb, h.bl.le (Heap.le_put n1)⟩, Heap.le_put (h.le.none n1), Heap.put_same ..⟩
  by_cases hzb : z = b1
  · subst hzb; rw [Heap.put_same] at hz ⊢; exact hz
  · rw [Heap.put_ne _ _ _ hzb] at hz ⊢; exact h.le _ _ hz
theorem Wr.base {A1 D : Heap} {bs : Str} (h : Wr A1 D b bs) (hle : A.le A1) : Wr A D b bs := ⟨hle.trans h.le, hle.none h.nb, h.bl⟩
theorem showV_eq (v : V) : showV v = if v.k = 1 then (if v.n = 1 then trueS else falseS) else if v.k = 2 then Lib.itoa v.n else if v.k = 3 then v.s ++ [98] else if v.k = 4 then quoteS v.s
    else if v.k = 5 then 40 :: (showR true v.l ++ [41]) else v.s ++ (if v.l.length = 0 then [] else 40 :: (showR true v.l ++ [41])) := by cases v; rfl
theorem list_ok {l : List V} (ih : ∀ w ∈ l, ∀ {A B : Heap} {x : TV} {bs : Str} {K : Heap → Prop}, Clo C A b p q → VIs A w x → VB w → Wr A B b bs → bs.length + (showV w).length ≤ 140737488355328 → (∀ D, Wr A D b (bs ++ showV w) → K D) → c_value_Show_2 C x (b, 0) (p, 0) K B)
    {A B : Heap} {t : Sl} {bs : Str} {K : Heap → Prop} (hC : Clo C A b p q) (hv : VRow A t l) (hl0 : l.length ≤ 140737488355328) (hB : VBs l) (h : Wr A B b bs) (hl : bs.length + (showR true l).length + 2 ≤ 140737488355328)
    (k : ∀ D, Wr A D b (bs ++ (40 :: (showR true l ++ [41]))) → K D) : c_value_Show_1 C t (b, 0) (q, 0) K B := by
  apply ad_value_Show_1
  unfold sh_value_Show_1
  refine h.byte (c := 40) rfl (by omega) fun B1 h1 => ?_
  rw [hv.len]
  refine ⟨fun x D => ∃ i : Nat, x = (i : Int) ∧ i ≤ l.length ∧ Wr A D b (bs ++ [40] ++ showR true (l.take i)), fun x _ => l.length - x.toNat, ⟨0, rfl, Nat.zero_le _, by simpa [showR] using h1⟩, ?_⟩
  rintro _ D ⟨i, rfl, hi, hw⟩
  refine ift.of (fun hlt => ?_) (fun hlt => ?_)
  · have hlt : i < l.length := by have := of_decide_eq_true hlt; omega
    have hm := List.getElem_mem hlt
    have hst := showR_take hlt
    have hpl := showR_pre l (i + 1)
    rw [hst] at hpl
    simp only [List.length_append] at hpl
    refine hv.ld hw.le rfl hlt fun x hx => ?_
    intro b14 n14
    refine ⟨_, Heap.put_same .., by simp [T_api_Value.c], ?_⟩
    rw [Heap.put_put]
    have hc : splice (T_api_Value.c T_api_Value.zero) (b14, 0).2 (T_api_Value.c x) = T_api_Value.c x := rfl
    rw [hc]
    obtain ⟨w1, w2, w3⟩ := hw.box (x := x) n14
    refine ⟨fun _ E => Wr (A.put b14 (.row (T_api_Value.c x))) E b (bs ++ [40] ++ showR true (l.take i) ++ (if i = 0 then [] else [44, 32])), ?_, ?_⟩
    · refine ift.of (fun h0 => ?_) (fun h0 => ?_)
      · have h0 : i ≠ 0 := by have := of_decide_eq_true h0; omega
        rw [if_neg h0] at hpl ⊢
        simp only [List.length_cons, List.length_nil] at hpl
        exact w1.str (s := [44, 32]) (by simp only [List.length_append, List.length_cons, List.length_nil]; omega) fun E hE => hE
      · have h0 : i = 0 := by have := of_decide_eq_false h0; omega
        rw [if_pos h0, List.append_nil]; exact w1
    · rintro _ E hE
      obtain ⟨y, y1, y2⟩ := (hC.le w2).show_
      refine ⟨y, rd_le hE.le y1, bxV (hE.le _ _ w3) (y2 _ _ _ (ih _ hm (hC.le w2) (hx.le w2) (hB.mem hm) hE ?_ fun F hF => ⟨rfl, ?_⟩))⟩
      · simp only [List.length_append, List.length_cons, List.length_nil]; omega
      · rw [w_i64 (by omega) (by omega)]
        refine ⟨⟨i + 1, by omega, by omega, ?_⟩, by first | omega | (dsimp only; omega)⟩
        rw [hst]
        have := hF.base w2
        simpa only [List.append_assoc] using this
  · have hie : i = l.length := by have := of_decide_eq_false hlt; omega
    rw [hie, List.take_length] at hw
    refine hw.byte (c := 41) rfl (by simp only [List.length_append, List.length_cons, List.length_nil]; omega) fun E hE => k E ?_
    simpa only [List.append_assoc, List.cons_append, List.nil_append] using hE
theorem show2_ok (hF : FmtC C) (v : V) : ∀ {A B : Heap} {x : TV} {bs : Str} {K : Heap → Prop}, Clo C A b p q → VIs A v x → VB v → Wr A B b bs → bs.length + (showV v).length ≤ 140737488355328 → (∀ D, Wr A D b (bs ++ showV v) → K D) → c_value_Show_2 C x (b, 0) (p, 0) K B := by
  refine V.rec_ (P := fun v => ∀ {A B : Heap} {x : TV} {bs : Str} {K : Heap → Prop}, Clo C A b p q → VIs A v x → VB v → Wr A B b bs → bs.length + (showV v).length ≤ 140737488355328 → (∀ D, Wr A D b (bs ++ showV v) → K D) → c_value_Show_2 C x (b, 0) (p, 0) K B) (fun v ih => ?_) v
  intro A B x bs K hC hv hB h hl k
  apply ad_value_Show_2
  unfold sh_value_Show_2
  intro b1 n1
  obtain ⟨w1, w2, w3⟩ := h.box (x := x) n1
  have hv1 := VIs_iff.1 hv
  have hb1 := w1.le _ _ w3
  have k1 : ∀ D, Wr (A.put b1 (.row (T_api_Value.c x))) D b (bs ++ showV v) → K D := fun D hD => k D (hD.base w2)
  rw [showV_eq] at hl k1
  have hC1 := hC.le w2
  have hrow := hv1.2.2.2.le w2
  generalize A.put b1 (.row (T_api_Value.c x)) = A1 at *
  generalize B.put b1 (.row (T_api_Value.c x)) = B1 at *
  refine bxK hb1 ?_
  rw [hv1.1]
  refine ift.of (fun h1 => ?_) (fun h1 => ?_)
  · have h1 : v.k = 1 := by simpa using h1
    rw [if_pos h1] at hl k1
    refine bxN hb1 (FormatBool_ok ?_)
    rw [hv1.2.1]
    have e : (if (v.n == 1) = true then trueS else falseS) = (if v.n = 1 then trueS else falseS) := by simp
    rw [e]
    exact w1.str hl k1
  have h1 : v.k ≠ 1 := by simpa using h1
  rw [if_neg h1] at hl k1
  refine ift.of (fun h2 => ?_) (fun h2 => ?_)
  · have h2 : v.k = 2 := by simpa using h2
    rw [if_pos h2] at hl k1
    refine bxN hb1 ?_
    rw [hv1.2.1]
    exact hF.ok hB.n.1 hB.n.2 (w1.str hl k1)
  have h2 : v.k ≠ 2 := by simpa using h2
  rw [if_neg h2] at hl k1
  refine ift.of (fun h3 => ?_) (fun h3 => ?_)
  · have h3 : v.k = 3 := by simpa using h3
    rw [if_pos h3] at hl k1
    simp only [List.length_append, List.length_cons, List.length_nil] at hl
    refine bxS hb1 ?_
    rw [hv1.2.2.1]
    refine w1.str (by omega) fun D hD => hD.byte (c := 98) rfl (by rw [List.length_append]; omega) fun E hE => k1 E ?_
    simpa only [List.append_assoc] using hE
  have h3 : v.k ≠ 3 := by simpa using h3
  rw [if_neg h3] at hl k1
  refine ift.of (fun h4 => ?_) (fun h4 => ?_)
  · have h4 : v.k = 4 := by simpa using h4
    rw [if_pos h4] at hl k1
    refine bxS hb1 ?_
    rw [hv1.2.2.1]
    exact quote_ok w1 hl k1
  have h4 : v.k ≠ 4 := by simpa using h4
  rw [if_neg h4] at hl k1
  obtain ⟨y, y1, y2⟩ := hC1.list
  refine ift.of (fun h5 => ?_) (fun h5 => ?_)
  · have h5 : v.k = 5 := by simpa using h5
    rw [if_pos h5] at hl k1
    simp only [List.length_append, List.length_cons, List.length_nil] at hl
    exact ⟨y, rd_le w1.le y1, bxL hb1 (y2 _ _ _ (list_ok ih hC1 hrow hB.l hB.ls w1 (by omega) fun D hD => ⟨rfl, k1 D hD⟩))⟩
  have h5 : v.k ≠ 5 := by simpa using h5
  rw [if_neg h5] at hl k1
  rw [List.length_append] at hl
  refine bxS hb1 ?_
  rw [hv1.2.2.1]
  refine w1.str (by omega) fun D hD => bxL (hD.le _ _ w3) ?_
  rw [hrow.len]
  refine ift.of (fun h6 => ?_) (fun h6 => ?_)
  · have h6 : v.l.length ≠ 0 := by have := of_decide_eq_true h6; omega
    rw [if_neg h6] at hl k1
    simp only [List.length_append, List.length_cons, List.length_nil] at hl
    refine ⟨y, rd_le hD.le y1, bxL (hD.le _ _ w3) (y2 _ _ _ (list_ok ih hC1 hrow hB.l hB.ls hD (by rw [List.length_append]; omega) fun E hE => ⟨rfl, k1 E ?_⟩))⟩
    rw [← List.append_assoc]; exact hE
  · have h6 : v.l.length = 0 := by have := of_decide_eq_false h6; omega
    rw [if_pos h6] at k1
    rw [List.append_nil] at k1
    exact k1 D hD
/-- the text of a value that may be -/
theorem Show_ok (hF : FmtC C) {v : V} {x : TV} {K : Str → Heap → Prop} (hv : VIs H v x) (hB : VB v) (hl : mayV v = true → (showV v).length ≤ 140737488355328) (k : ∀ H2, H.le H2 → K (if mayV v then showV v else []) H2) : c_value_Show C x K H := by
  apply ad_value_Show
  unfold sh_value_Show
  intro b1 n1
  have hle1 := Heap.le_put n1 (g := .row (T_api_Value.c x)) (m := true)
  have hb1 : (H.put b1 (.row (T_api_Value.c x))) b1 = some (true, .row (T_api_Value.c x)) := Heap.put_same ..
  have hv1 := hv.le hle1
  generalize H.put b1 (.row (T_api_Value.c x)) = H1 at *
  refine bxV hb1 (value_Check_ok hv1 hB ?_)
  rw [bne, mayV_dec]
  refine ift.of (fun h => ?_) (fun h => ?_)
  · have h : mayV v = false := by simpa using h
    have := k H1 hle1
    rw [h] at this; exact this
  have h : mayV v = true := by simpa using h
  intro b8 n8 b10 n10 b12 n12
  have l8 := Heap.le_put n8 (g := .trow tyB 0 [pv none, slv Sl.nil]) (m := true)
  have ne1 : b8 ≠ b10 := fun e => by rw [e, Heap.put_same] at n10; cases n10
  have ne2 : b8 ≠ b12 := fun e => by rw [← e, Heap.put_ne _ _ _ ne1, Heap.put_same] at n12; cases n12
  have ne3 : b10 ≠ b12 := fun e => by rw [e, Heap.put_same] at n12; cases n12
  refine ⟨[.nilFunc], Heap.put_same .., Nat.zero_lt_one, ?_⟩
  refine ⟨[.nilFunc], ?_, Nat.zero_lt_one, ?_⟩
  · show ((((H1.put b8 _).put b10 _).put b12 _).put b12 _) b10 = _
    rw [Heap.put_ne _ _ _ ne3, Heap.put_ne _ _ _ ne3, Heap.put_same]
  generalize hf24 : Value.func (Fn.func _) (List.toArray []) (List.toArray [pv (some (b8, 0)), pv (some (b10, 0))]) = F24
  generalize hf27 : Value.func (Fn.func _) (List.toArray []) (List.toArray [pv (some (b8, 0)), pv (some (b12, 0))]) = F27
  simp only [List.set_cons_zero]
  have n10' : H1 b10 = none := l8.none n10
  have n12' : H1 b12 = none := (l8.trans (Heap.le_put n10)).none n12
  generalize hD0 : ((((H1.put b8 (.trow tyB 0 [pv none, slv Sl.nil])).put b10 (.row [.nilFunc])).put b12 (.row [.nilFunc])).put b12 (.row [F24])).put b10 (.row [F27]) = D0
  have d8 : D0 b8 = some (true, .trow tyB 0 [pv none, slv Sl.nil]) := by
    rw [← hD0, Heap.put_ne _ _ _ ne1, Heap.put_ne _ _ _ ne2, Heap.put_ne _ _ _ ne2, Heap.put_ne _ _ _ ne1, Heap.put_same]
  have d10 : D0 b10 = some (true, .row [F27]) := by rw [← hD0, Heap.put_same]
  have d12 : D0 b12 = some (true, .row [F24]) := by rw [← hD0, Heap.put_ne _ _ _ (Ne.symm ne3), Heap.put_same]
  have dle : H1.le D0 := fun z e hz => by
    have z8 : z ≠ b8 := fun e' => by rw [e', n8] at hz; cases hz
    have z10 : z ≠ b10 := fun e' => by rw [e', n10'] at hz; cases hz
    have z12 : z ≠ b12 := fun e' => by rw [e', n12'] at hz; cases hz
    rw [← hD0, Heap.put_ne _ _ _ z10, Heap.put_ne _ _ _ z12, Heap.put_ne _ _ _ z12, Heap.put_ne _ _ _ z10, Heap.put_ne _ _ _ z8]; exact hz
  clear hD0
  let A : Heap := D0.del b8
  have hA8 : A b8 = none := Heap.del_same ..
  have hAle : A.le D0 := Heap.del_le D0 b8
  have hHA : H1.le A := fun z e hz => by
    have z8 : z ≠ b8 := fun e' => by rw [e', n8] at hz; cases hz
    show D0.del b8 z = _
    rw [Heap.del_ne _ z8]; exact dle _ _ hz
  have hw : Wr A D0 b8 [] := ⟨hAle, hA8, .inr ⟨rfl, d8⟩⟩
  have a10 : A b10 = some (true, .row [F27]) := by show D0.del b8 b10 = _; rw [Heap.del_ne _ (Ne.symm ne1)]; exact d10
  have a12 : A b12 = some (true, .row [F24]) := by show D0.del b8 b12 = _; rw [Heap.del_ne _ (Ne.symm ne2)]; exact d12
  have hC : Clo C A b8 b12 b10 := by
    refine ⟨⟨F24, by simp [rd, a12, GO.cells?], fun t B Φ hh => ?_⟩, F27, by simp [rd, a10, GO.cells?], fun w B Φ hh => ?_⟩
    · exact ⟨_, [], _, hf24.symm, ok_value_Show_1, Spec.mono hh fun u B2 ⟨e, h2⟩ => by rw [e]; exact h2⟩
    · exact ⟨_, [], _, hf27.symm, ok_value_Show_2, Spec.mono hh fun u B2 ⟨e, h2⟩ => by rw [e]; exact h2⟩
  obtain ⟨y, y1, y2⟩ := hC.show_
  refine ⟨y, rd_le hAle y1, bxV (dle _ _ hb1) (y2 _ _ _ (show2_ok hF v (bs := []) hC (hv1.le hHA) hB hw (by simpa using hl h) fun D hD => ⟨rfl, ?_⟩))⟩
  refine String_ok hD.bl (by rw [List.nil_append]; have := hl h; omega) ?_
  have := k (D.put b8 (Bd ([] ++ showV v))) ((hle1.trans hHA).trans (hD.le.put _ _ hA8))
  rw [h] at this
  exact this
end
theorem quoteS_len (s : Str) : (quoteS s).length ≤ 4 * s.length + 2 := by
  have : (s.flatMap qC).length ≤ 4 * s.length := by
    induction s with
    | nil => exact Nat.le_refl _
    | cons c s ih =>
      have := (qC_len c).2
      rw [List.flatMap_cons, List.length_append, List.length_cons]; omega
  simp only [quoteS, List.length_cons, List.length_append, List.length_nil]; omega
theorem showR_len : ∀ (l : List V) (f : Bool), (∀ v ∈ l, (showV v).length + 2 ≤ 17000 * vsize v) → (showR f l).length ≤ 17000 * vsizes l
  | [], f, _ => by simp [showR]
  | v :: l, f, h => by
    have h1 := h v (List.mem_cons_self ..)
    have h2 := showR_len l false fun w hw => h w (List.mem_cons_of_mem _ hw)
    simp only [showR, vsizes, List.length_append]
    have h3 : (if f = true then ([] : Str) else [44, 32]).length ≤ 2 := by cases f <;> simp
    omega
theorem showV_len (v : V) : VB v → formV v = true → fitsV v = true → (showV v).length + 2 ≤ 17000 * vsize v := by
  refine V.rec_ (P := fun v => VB v → formV v = true → fitsV v = true → (showV v).length + 2 ≤ 17000 * vsize v) (fun v ih => ?_) v
  intro hB hf hfit
  have hsz : vsize v = vsizes v.l + 1 := by cases v; rfl
  obtain ⟨hfs, hc⟩ := ok_cases hf
  rw [fitsV_eq, Bool.and_eq_true] at hfit
  have fm : ∀ {l : List V} {w : V}, w ∈ l → fitsVs l = true → fitsV w = true := by
    intro l
    induction l with
    | nil => intro w hw; cases hw
    | cons x l ihl =>
      intro w hw hl
      simp only [fitsVs, Bool.and_eq_true] at hl
      rcases List.mem_cons.1 hw with rfl | hw
      · exact hl.1
      · exact ihl hw hl.2
  have hR := showR_len v.l true fun w hw => ih w hw (hB.ls.mem hw) (formVs_mem hw hfs) (fm hw hfit.2)
  have hfN := hfit.1
  rw [showV_eq, hsz]
  unfold fitN at hfN
  rcases hc with ⟨h, _⟩ | ⟨h, _⟩ | ⟨h, hn, _⟩ | ⟨h, _⟩ | ⟨h, _⟩ | ⟨h, _, hn⟩
  · rw [if_pos h]
    have : (if v.n = 1 then trueS else falseS).length ≤ 5 := by split <;> decide
    omega
  · rw [if_neg (by omega), if_pos h]
    have := Lib.itoa_length_le v.n hB.n.1 hB.n.2
    omega
  · rw [if_neg (by omega), if_neg (by omega), if_pos h]
    rw [if_pos h] at hfN
    have hd := of_decide_eq_true hfN
    have := (numS_parts hn).2.2
    rw [List.length_append, List.length_singleton]; omega
  · rw [if_neg (by omega), if_neg (by omega), if_neg (by omega), if_pos h]
    rw [if_neg (by omega), if_pos h] at hfN
    have hd := of_decide_eq_true hfN
    have := quoteS_len v.s
    omega
  · rw [if_neg (by omega), if_neg (by omega), if_neg (by omega), if_neg (by omega), if_pos h]
    simp only [List.length_cons, List.length_append, List.length_nil]; omega
  · rw [if_neg (by omega), if_neg (by omega), if_neg (by omega), if_neg (by omega), if_neg (by omega)]
    have := (namesS_parts hn).2.2.2.1
    have h2 : (if v.l.length = 0 then ([] : Str) else 40 :: (showR true v.l ++ [41])).length ≤ (showR true v.l).length + 2 := by
      split
      · exact Nat.zero_le _
      · simp
    rw [List.length_append]; omega
theorem show_may {v : V} (hB : VB v) (h : mayV v = true) (hs : vsize v ≤ 1000000) : (showV v).length ≤ 140737488355328 := by
  have := showV_len v hB ((mayV_iff v).1 h).2.1 ((mayV_iff v).1 h).2.2
  omega
theorem show_same {v w : V} (hv : mayV v = true) (hw : mayV w = true) : (showV v == showV w) = sameV v w := by
  rw [Bool.eq_iff_iff, beq_iff_eq, sameV_iff]
  refine ⟨fun h => ?_, fun h => by rw [h]⟩
  exact (show_inj v w [] [] (mayV_form hv) (mayV_form hw) (.inl rfl) (.inl rfl) (by rw [h])).1
end Sx
end

noncomputable section
set_option linter.unusedVariables false
set_option linter.unusedSimpArgs false
namespace Sx
open Go Go.Proofs
section
variable {C : Ctx} {H : Heap}
theorem cmpR_one (v w : V) : cmpR [v] [w] = cmpA v w := by
  unfold cmpR cmpA
  have e1 : ∀ v : V, mayR [v] = mayV v := fun v => by simp [mayR]
  rw [e1, e1]
  have e2 : cmpVs [v] [w] = cmpV v w := by
    simp only [cmpVs]
    split
    · rfl
    · omega
  rw [e2]
theorem lit_row {A : Heap} {b n cap : Nat} {m : Bool} {vs : List V} {xs : List TV} {cs : List Value} (h : A b = some (m, .row cs)) (hc : cs = xs.flatMap T_api_Value.c) (hn : n = xs.length) (hv : VsAre A vs xs) : VRow A (Sl.of (some (b, 0)) n cap) vs := by
  subst hc
  refine ⟨xs, .inr ⟨rfl, _, rfl, rds_row h fun j v hj => ?_⟩, hn, hv⟩
  simpa using hj
theorem pCmp_ok {v w : V} {x y : TV} {K : Int → Heap → Prop} (hv : VIs H v x) (hw : VIs H w y) (hB : VB v) (hB2 : VB w) (k : K (cmpA v w) H) : c_value_Cmp C x y K H := by
  apply c_value_Cmp.gh
  apply ad_value_Cmp
  unfold sh_value_Cmp
  intro b1 n1 b3 n3
  have hb3 : ((H.put b1 (.row (T_api_Value.c x))).put b3 (.row (T_api_Value.c y))) b3 = some (true, .row (T_api_Value.c y)) := Heap.put_same ..
  have hne : b1 ≠ b3 := fun e => by rw [e, Heap.put_same] at n3; cases n3
  have hb1 : ((H.put b1 (.row (T_api_Value.c x))).put b3 (.row (T_api_Value.c y))) b1 = some (true, .row (T_api_Value.c x)) := by rw [Heap.put_ne _ _ _ hne, Heap.put_same]
  have hle := (Heap.le_put n1 (g := .row (T_api_Value.c x)) (m := true)).trans (Heap.le_put n3 (g := .row (T_api_Value.c y)) (m := true))
  generalize (H.put b1 (.row (T_api_Value.c x))).put b3 (.row (T_api_Value.c y)) = H1 at *
  refine bxV hb1 ?_
  intro b7 n7
  have hle7 := Heap.le_put n7 (g := .row (T_api_Value.c x ++ [])) (m := true)
  refine bxV (hle7 _ _ hb3) ?_
  intro b11 n11
  have hle11 := Heap.le_put n11 (g := .row (T_api_Value.c y ++ [])) (m := true)
  have ha := (hle.trans hle7).trans hle11
  refine pCmpRows_ok (l := [v]) (m := [w]) (lit_row (xs := [x]) (hle11 _ _ (Heap.put_same ..)) (by simp) rfl ⟨hv.le ha, trivial⟩) (lit_row (xs := [y]) (Heap.put_same ..) (by simp) rfl ⟨hw.le ha, trivial⟩) (by simp) (by simp) ⟨hB, trivial⟩ ⟨hB2, trivial⟩ ⟨H, Gh.le ha, ?_⟩
  rw [cmpR_one]; exact k
theorem stV {b : Nat} {x y : TV} {K : Heap → Prop} (hb : H b = some (true, .row (T_api_Value.c x))) (k : K (H.put b (.row (T_api_Value.c y)))) : stT (b, 0) (T_api_Value.c y) K H := by
  refine ⟨_, hb, by simp [T_api_Value.c], ?_⟩
  have e : splice (T_api_Value.c x) (b, 0).2 (T_api_Value.c y) = T_api_Value.c y := rfl
  rw [e]; exact k
end
def exA : V := .mk 2 3 [] []
def exB : V := .mk 3 0 [49, 48] []
def exC : V := .mk 6 0 [99, 111, 110, 115] [exA, exB]
theorem ex_may : mayV exA = true ∧ mayV exB = true ∧ mayV exC = true := by decide +kernel
theorem ex_chk : checkV exC = 0 ∧ checkV (.mk 0 0 [] []) = 4 := by decide +kernel
theorem ex_show : showV exC = [99, 111, 110, 115, 40, 51, 44, 32, 49, 48, 98, 41] := by
  have e3 : Lib.itoa 3 = [51] := by unfold Lib.itoa; rw [if_neg (by decide), Lib.decDigits, dif_pos (by decide)]; rfl
  simp [exC, exA, exB, showV, showR, e3]
theorem ex_cmp : cmpA exA exB = -1 ∧ cmpR [exA] [exA, exB] = -1 ∧ cmpR [exA] [exB] = -1 ∧ cmpR [exB] [exA] = 1 := by decide +kernel
theorem ex_vb : VB exA ∧ VB exB ∧ VB exC := by
  refine ⟨?_, ?_, ?_⟩ <;> simp [exA, exB, exC, VB, VBs]
theorem ex_sorted {A : List (Sl × (List V × Nat))} (h : Rep (fun a b : List V × Nat => cmpR a.1 b.1) (fun a => a.2) ([[exB], [exA], [exB]] : List (List V)).zipIdx (A.map fun e => e.2)) : A.map (fun e => e.2) = [([exA], 1), ([exB], 0)] := by
  have L : Lin (fun a b : List V × Nat => cmpR a.1 b.1) fun _ => True := Lin.row.comp fun e : List V × Nat => e.1
  obtain ⟨_, _, ab, ba⟩ := ex_cmp
  have aa : cmpR [exA] [exA] = 0 := Lin.row.refl trivial
  have bb : cmpR [exB] [exB] = 0 := Lin.row.refl trivial
  refine Rep.uniq L (fun _ _ => trivial) h ⟨?_, fun y hy => ?_, fun x hx => ?_, fun y hy x hx e => ?_⟩
  · simp [ab]
  · simp only [List.mem_cons, List.not_mem_nil, or_false] at hy
    rcases hy with rfl | rfl <;> simp [List.zipIdx]
  · simp only [List.zipIdx, List.mem_cons, List.not_mem_nil, or_false] at hx
    rcases hx with rfl | rfl | rfl
    · exact ⟨([exB], 0), by simp, bb⟩
    · exact ⟨([exA], 1), by simp, aa⟩
    · exact ⟨([exB], 0), by simp, bb⟩
  · simp only [List.mem_cons, List.not_mem_nil, or_false] at hy
    simp only [List.zipIdx, List.mem_cons, List.not_mem_nil, or_false] at hx
    rcases hy with rfl | rfl <;> rcases hx with rfl | rfl | rfl <;> simp only [ab, ba] at e <;> first | exact .inl rfl | (exact absurd e (by decide)) | exact .inr (by decide)
end Sx
end

noncomputable section
set_option linter.unusedVariables false
set_option linter.unusedSimpArgs false
namespace Sx
open Go Go.Proofs
section
variable {C : Ctx} {H : Heap}
theorem awakeF_ok (hF : FmtC C) {K : Bool → Heap → Prop} (k : ∀ H2, H.le H2 → K true H2) : c_law02_awake C K H := by
  obtain ⟨vA, vB, vC⟩ := ex_vb
  obtain ⟨mA, mB, mC⟩ := ex_may
  obtain ⟨q1, q2⟩ := ex_chk
  obtain ⟨r1, r2, r3, r4⟩ := ex_cmp
  apply ad_law02_awake
  unfold sh_law02_awake
  intro b1 n1 b3 n3
  have ne13 : b1 ≠ b3 := fun e => by rw [e, Heap.put_same] at n3; cases n3
  refine stV (x := T_api_Value.zero) (by rw [Heap.put_ne _ _ _ ne13, Heap.put_same]) (stV (x := T_api_Value.zero) (by rw [Heap.put_ne _ _ _ (Ne.symm ne13), Heap.put_same]) ?_)
  generalize hH6 : ((((H.put b1 (.row (T_api_Value.c T_api_Value.zero))).put b3 (.row (T_api_Value.c T_api_Value.zero))).put b1 (.row (T_api_Value.c ⟨2, 3, [], Sl.nil⟩))).put b3 (.row (T_api_Value.c ⟨3, 0, [49, 48], Sl.nil⟩))) = H6
  have l6 : H.le H6 := fun z e hz => by
    have z1 : z ≠ b1 := fun e' => by rw [e', n1] at hz; cases hz
    have z3 : z ≠ b3 := fun e' => by rw [e', (Heap.le_put n1).none n3] at hz; cases hz
    rw [← hH6, Heap.put_ne _ _ _ z3, Heap.put_ne _ _ _ z1, Heap.put_ne _ _ _ z3, Heap.put_ne _ _ _ z1]; exact hz
  have h1 : H6 b1 = some (true, .row (T_api_Value.c ⟨2, 3, [], Sl.nil⟩)) := by rw [← hH6, Heap.put_ne _ _ _ ne13, Heap.put_same]
  have h3 : H6 b3 = some (true, .row (T_api_Value.c ⟨3, 0, [49, 48], Sl.nil⟩)) := by rw [← hH6, Heap.put_same]
  clear hH6 n1 n3
  have iA : ∀ D : Heap, VIs D exA ⟨2, 3, [], Sl.nil⟩ := fun D => ⟨rfl, rfl, rfl, [], .inl rfl, rfl, trivial⟩
  have iB : ∀ D : Heap, VIs D exB ⟨3, 0, [49, 48], Sl.nil⟩ := fun D => ⟨rfl, rfl, rfl, [], .inl rfl, rfl, trivial⟩
  refine bxV h1 (bxV h3 ?_)
  intro b11 n11
  have l11 := Heap.le_put n11 (g := .row (T_api_Value.c ⟨2, 3, [], Sl.nil⟩ ++ T_api_Value.c ⟨3, 0, [49, 48], Sl.nil⟩ ++ [])) (m := true)
  have row11 : VRow (H6.put b11 (.row (T_api_Value.c ⟨2, 3, [], Sl.nil⟩ ++ T_api_Value.c ⟨3, 0, [49, 48], Sl.nil⟩ ++ []))) (Sl.of (some (b11, 0)) 2 2) [exA, exB] := lit_row (xs := [⟨2, 3, [], Sl.nil⟩, ⟨3, 0, [49, 48], Sl.nil⟩]) (Heap.put_same ..) (by simp) rfl ⟨iA _, iB _, trivial⟩
  have h1' := l11 _ _ h1
  have h3' := l11 _ _ h3
  have l12 := l6.trans l11
  generalize H6.put b11 (.row (T_api_Value.c ⟨2, 3, [], Sl.nil⟩ ++ T_api_Value.c ⟨3, 0, [49, 48], Sl.nil⟩ ++ [])) = H12 at *
  intro b13 n13
  refine stV (x := T_api_Value.zero) (Heap.put_same ..) ?_
  rw [Heap.put_put]
  have l13 := Heap.le_put n13 (g := .row (T_api_Value.c ⟨6, 0, [99, 111, 110, 115], Sl.of (some (b11, 0)) 2 2⟩)) (m := true)
  have h13 : (H12.put b13 (.row (T_api_Value.c ⟨6, 0, [99, 111, 110, 115], Sl.of (some (b11, 0)) 2 2⟩))) b13 = some (true, .row (T_api_Value.c ⟨6, 0, [99, 111, 110, 115], Sl.of (some (b11, 0)) 2 2⟩)) := Heap.put_same ..
  have iC : VIs (H12.put b13 (.row (T_api_Value.c ⟨6, 0, [99, 111, 110, 115], Sl.of (some (b11, 0)) 2 2⟩))) exC ⟨6, 0, [99, 111, 110, 115], Sl.of (some (b11, 0)) 2 2⟩ := VIs_iff.2 ⟨rfl, rfl, rfl, row11.le l13⟩
  have h1 := l13 _ _ h1'
  have h3 := l13 _ _ h3'
  have l15 := l12.trans l13
  generalize H12.put b13 (.row (T_api_Value.c ⟨6, 0, [99, 111, 110, 115], Sl.of (some (b11, 0)) 2 2⟩)) = H15 at *
  refine bxV h3 ?_
  intro b18 n18
  have l18 := Heap.le_put n18 (g := (.row (T_api_Value.c ⟨3, 0, [49, 48], Sl.nil⟩ ++ []))) (m := true)
  have row18 := lit_row (n := 1) (cap := 1) (vs := [exB]) (xs := [⟨3, 0, [49, 48], Sl.nil⟩]) (Heap.put_same H15 b18 (.row (T_api_Value.c ⟨3, 0, [49, 48], Sl.nil⟩ ++ [])) true) (by simp) rfl ⟨iB _, trivial⟩
  generalize H15.put b18 (.row (T_api_Value.c ⟨3, 0, [49, 48], Sl.nil⟩ ++ [])) = H19 at *
  refine bxV (l18 _ _ h1) ?_
  intro b22 n22
  have l22 := Heap.le_put n22 (g := (.row (T_api_Value.c ⟨2, 3, [], Sl.nil⟩ ++ []))) (m := true)
  have row22 := lit_row (n := 1) (cap := 1) (vs := [exA]) (xs := [⟨2, 3, [], Sl.nil⟩]) (Heap.put_same H19 b22 (.row (T_api_Value.c ⟨2, 3, [], Sl.nil⟩ ++ [])) true) (by simp) rfl ⟨iA _, trivial⟩
  generalize H19.put b22 (.row (T_api_Value.c ⟨2, 3, [], Sl.nil⟩ ++ [])) = H23 at *
  refine bxV (l22 _ _ (l18 _ _ h3)) ?_
  intro b26 n26
  have l26 := Heap.le_put n26 (g := (.row (T_api_Value.c ⟨3, 0, [49, 48], Sl.nil⟩ ++ []))) (m := true)
  have row26 := lit_row (n := 1) (cap := 1) (vs := [exB]) (xs := [⟨3, 0, [49, 48], Sl.nil⟩]) (Heap.put_same H23 b26 (.row (T_api_Value.c ⟨3, 0, [49, 48], Sl.nil⟩ ++ [])) true) (by simp) rfl ⟨iB _, trivial⟩
  generalize H23.put b26 (.row (T_api_Value.c ⟨3, 0, [49, 48], Sl.nil⟩ ++ [])) = H27 at *
  intro b28 n28
  have l28 := Heap.le_put n28 (g := .row [slv (Sl.of (some (b18, 0)) 1 1), slv (Sl.of (some (b22, 0)) 1 1), slv (Sl.of (some (b26, 0)) 1 1)]) (m := true)
  have rows : VRows _ (Sl.of (some (b28, 0)) 3 3) [[exB], [exA], [exB]] := ⟨[Sl.of (some (b18, 0)) 1 1, Sl.of (some (b22, 0)) 1 1, Sl.of (some (b26, 0)) 1 1], .inr ⟨rfl, _, rfl, rds_row (Heap.put_same _ b28 (.row [slv (Sl.of (some (b18, 0)) 1 1), slv (Sl.of (some (b22, 0)) 1 1), slv (Sl.of (some (b26, 0)) 1 1)]) true) fun j v hj => by simpa using hj⟩, rfl, rfl, fun i x l hx hl => by
    match i, hx, hl with
    | 0, hx, hl => injection hx with hx; injection hl with hl; subst hx; subst hl; exact row18.le ((l22.trans l26).trans l28)
    | 1, hx, hl => injection hx with hx; injection hl with hl; subst hx; subst hl; exact row22.le (l26.trans l28)
    | 2, hx, hl => injection hx with hx; injection hl with hl; subst hx; subst hl; exact row26.le l28
    | i + 3, hx, hl => simp at hx⟩
  refine vsort_ok rows (Heap.le.refl _) (by simp) (fun l hl => ?_) fun t G A2 hS => ?_
  · simp only [List.mem_cons, List.not_mem_nil, or_false] at hl
    rcases hl with rfl | rfl | rfl
    · exact ⟨⟨vB, trivial⟩, by simp, by simp [vsizes, vsize, exB]⟩
    · exact ⟨⟨vA, trivial⟩, by simp, by simp [vsizes, vsize, exA]⟩
    · exact ⟨⟨vB, trivial⟩, by simp, by simp [vsizes, vsize, exB]⟩
  have hrows := hS.rows
  have hA2 := ex_sorted hS.rep
  have eA2 : A2.map (fun e => e.2.1) = [[exA], [exB]] := by
    have := congrArg (List.map fun e : List V × Nat => e.1) hA2
    rw [List.map_map] at this
    exact this
  rw [eA2] at hrows
  have lG : H15.le G := (((l18.trans l22).trans l26).trans l28).trans hS.own.le
  have g1 := lG _ _ h1
  have g3 := lG _ _ h3
  have g13 := lG _ _ h13
  have iC := iC.le lG
  have lHG := l15.trans lG
  clear hS hA2 eA2 rows row18 row22 row26 row11
  have hlen := hrows.len
  refine bxV g13 (value_Check_ok iC vC ?_)
  rw [q1]
  refine ⟨fun b E => b = true ∧ G.le E, ift_pos rfl (bxV g1 (bxV g3 (pCmp_ok (iA _) (iB _) vA vB ⟨by rw [r1]; rfl, Heap.le.refl _⟩))), ?_⟩
  rintro _ E1 ⟨rfl, lE1⟩
  refine ⟨fun b E => b = true ∧ G.le E, ?_, ?_⟩
  · refine ift_pos rfl (bxV (lE1 _ _ g1) ?_)
    intro b53 n53
    have l53 := Heap.le_put n53 (g := .row (T_api_Value.c ⟨2, 3, [], Sl.nil⟩ ++ [])) (m := true)
    have row53 := lit_row (n := 1) (cap := 1) (vs := [exA]) (xs := [⟨2, 3, [], Sl.nil⟩]) (Heap.put_same E1 b53 (.row (T_api_Value.c ⟨2, 3, [], Sl.nil⟩ ++ [])) true) (by simp) rfl ⟨iA _, trivial⟩
    refine bxV (l53 _ _ (lE1 _ _ g1)) (bxV (l53 _ _ (lE1 _ _ g3)) ?_)
    intro b59 n59
    have l59 := Heap.le_put n59 (g := .row (T_api_Value.c ⟨2, 3, [], Sl.nil⟩ ++ T_api_Value.c ⟨3, 0, [49, 48], Sl.nil⟩ ++ [])) (m := true)
    refine pCmpRows_ok (row53.le l59) (lit_row (vs := [exA, exB]) (xs := [⟨2, 3, [], Sl.nil⟩, ⟨3, 0, [49, 48], Sl.nil⟩]) (Heap.put_same ..) (by simp) rfl ⟨iA _, iB _, trivial⟩) (by simp) (by simp) ⟨vA, trivial⟩ ⟨vA, vB, trivial⟩ ⟨?_, lE1.trans (l53.trans l59)⟩
    rw [r2]; rfl
  rintro _ E ⟨rfl, lE⟩
  refine ⟨fun b F => b = true ∧ G.le F, ?_, ?_⟩
  · refine ift_pos rfl (bxV (lE _ _ g13) (Show_ok hF (iC.le lE) vC (fun _ => by rw [ex_show]; simp) fun H2 h2 => ⟨?_, lE.trans h2⟩))
    rw [if_pos mC, ex_show]; rfl
  rintro _ F ⟨rfl, lF⟩
  refine ⟨fun b D => b = true ∧ G.le D, ?_, ?_⟩
  · refine ift_pos (by rw [hlen]; rfl) (hrows.ld lF (i := 0) rfl (by simp) fun u hu => ⟨?_, lF⟩)
    rw [hu.len]; rfl
  rintro _ F2 ⟨rfl, lF2⟩
  refine ⟨fun b D => b = true ∧ G.le D, ?_, ?_⟩
  · refine ift_pos rfl (hrows.ld lF2 (i := 0) rfl (by simp) fun u hu => ?_)
    obtain ⟨xs, u1, u2, u3⟩ := hu
    match xs, u1, u2, u3 with
    | [y], u1, u2, u3 =>
      refine ixa_of (rdsl_le lF2 u1) (by omega) (by rw [u2]; exact Int.zero_lt_one) (by simp [T_api_Value.c]) fun p hp hr => ?_
      have hy := VIs_iff.1 u3.1
      refine ⟨y.N, ?_, by rw [hy.2.1]; exact ⟨rfl, lF2⟩⟩
      have := rds_get hr 1 (.int .i64 y.N) (by simp [T_api_Value.c])
      exact this
  rintro _ F3 ⟨rfl, lF3⟩
  refine ⟨fun b D => b = true ∧ G.le D, ?_, ?_⟩
  · refine ift_pos rfl (value_Check_ok (v := .mk 0 0 [] []) ⟨rfl, rfl, rfl, [], .inl rfl, rfl, trivial⟩ (by simp [VB, VBs]) ⟨?_, lF3⟩)
    rw [q2]; rfl
  rintro _ F4 ⟨rfl, lF4⟩
  exact k _ (lHG.trans lF4)
end
end Sx
end

noncomputable section
set_option linter.unusedVariables false
set_option linter.unusedSimpArgs false
namespace Sx
open Go Go.Proofs
theorem vsizes_take {l : List V} {i : Nat} (h : i < l.length) : vsizes (l.take (i + 1)) = vsizes (l.take i) + vsize l[i] := by
  have e : ∀ a b : List V, vsizes (a ++ b) = vsizes a + vsizes b := by
    intro a
    induction a with
    | nil => intro b; simp [vsizes]
    | cons v a ih => intro b; simp only [List.cons_append, vsizes, ih]; omega
  rw [List.take_add_one, List.getElem?_eq_getElem h, Option.toList_some, e]; simp [vsizes]
section
variable {C : Ctx} {H : Heap}
theorem div50 {n : Nat} (h : n ≤ 140737488355328) : w .i64 (1 + w .i64 (Int.tdiv (n : Int) 50)) = ((1 + n / 50 : Nat) : Int) := by
  have e : Int.tdiv (n : Int) 50 = ((n / 50 : Nat) : Int) := by
    rw [Int.tdiv_eq_ediv_of_nonneg (by omega)]; omega
  rw [e, w_i64 (x := ((n / 50 : Nat) : Int)) (by omega) (by omega), w_i64 (by omega) (by omega)]; omega
theorem weight_ok {v : V} {x : TV} {H : Heap} {m : Nat} {K : Int → Heap → Prop} (hv : VIs H v x) (hB : VB v) (h0 : 1 ≤ m) (hm : m ≤ 1000000) (k : ∀ r : Nat, 1 ≤ r → r ≤ 8796093022208 + m → (r < m → vsize v ≤ r) → K r H) : c_law02_weight C x m K H := by
  refine V.rec_ (P := fun v => ∀ {x H} {m : Nat} {K : Int → Heap → Prop}, VIs H v x → VB v → 1 ≤ m → m ≤ 1000000 → (∀ r : Nat, 1 ≤ r → r ≤ 8796093022208 + m → (r < m → vsize v ≤ r) → K r H) → c_law02_weight C x m K H) (fun v ih => ?_) v hv hB h0 hm k
  clear hv hB h0 hm k m
  intro x H m K hv hB h0 hm k
  apply c_law02_weight.gh
  apply ad_law02_weight
  unfold sh_law02_weight
  intro b1 n1
  have hr := hv.row
  have hl := hr.len
  have hbl := hB.l
  have hbs := hB.s
  have hsz : vsize v = vsizes v.l + 1 := by obtain ⟨k, n, s, l⟩ := v; rfl
  have hb1 : (H.put b1 (.row (T_api_Value.c x))) b1 = some (true, .row (T_api_Value.c x)) := Heap.put_same ..
  have hle1 := Heap.le_put n1 (g := .row (T_api_Value.c x)) (m := true)
  generalize H.put b1 (.row (T_api_Value.c x)) = H1 at *
  refine bxS hb1 ?_
  rw [hv.txt, div50 hbs]
  have hd : v.s.length / 50 ≤ 2814749767107 := by omega
  refine ⟨fun y A => A = H1 ∧ ∃ i n : Nat, y = ((n : Int), (i : Int)) ∧ i ≤ v.l.length ∧ 1 ≤ n ∧ n ≤ 8796093022208 + m ∧ (n < m → 1 + vsizes (v.l.take i) ≤ n), fun y _ => v.l.length - y.2.toNat,
    ⟨rfl, 0, _, rfl, Nat.zero_le _, by omega, by omega, fun _ => by simp [vsizes]⟩, ?_⟩
  rintro _ A ⟨rfl, i, n, rfl, hi, hn1, hn2, hn3⟩
  refine bxL hb1 ?_
  rw [hl]
  refine ift.of (fun h => ?_) (fun h => ?_)
  · simp only [Bool.and_eq_true, decide_eq_true_eq] at h
    have hlt : i < v.l.length := by omega
    have hnm : n < m := by omega
    have hmem := List.getElem_mem hlt
    refine bxL hb1 ?_
    refine hr.ld hle1 rfl hlt fun y hy => ?_
    rw [w_i64 (x := (m : Int) - n) (by omega) (by omega), show (m : Int) - n = ((m - n : Nat) : Int) by omega]
    refine ih _ hmem (hy.le hle1) (hB.ls.mem hmem) (by omega) (by omega) fun r r1 r2 r3 => ?_
    rw [w_i64 (by omega) (by omega), w_i64 (by omega) (by omega)]
    refine ⟨⟨rfl, i + 1, n + r, by simp, by omega, by omega, by omega, fun hh => ?_⟩, by first | omega | (dsimp only; omega)⟩
    rw [vsizes_take hlt]
    have := r3 (by omega)
    have := hn3 hnm
    omega
  · refine ⟨H, Gh.le hle1, k n hn1 hn2 fun hh => ?_⟩
    have hie : i = v.l.length := by
      have hnm := hh
      simp only [Bool.and_eq_false_iff, decide_eq_false_iff_not] at h
      omega
    have := hn3 hh
    rw [hie, List.take_length] at this
    omega
theorem heavy_ok {l : List V} {s : Sl} {H : Heap} {K : Bool → Heap → Prop} (hs : VRow H s l) (hl : l.length ≤ 140737488355328) (hB : VBs l) (k : ∀ b : Bool, (b = false → vsizes l ≤ 600) → K b H) : c_law02_heavy C s K H := by
  apply ad_law02_heavy
  unfold sh_law02_heavy
  rw [hs.len]
  refine ⟨fun y A => A = H ∧ ∃ i n : Nat, y = ((n : Int), (i : Int)) ∧ i ≤ l.length ∧ n ≤ 8796093024000 ∧ (n < 600 → vsizes (l.take i) ≤ n), fun y _ => l.length - y.2.toNat,
    ⟨rfl, 0, 0, rfl, Nat.zero_le _, by omega, fun _ => by simp [vsizes]⟩, ?_⟩
  rintro _ A ⟨rfl, i, n, rfl, hi, hn2, hn3⟩
  refine ift.of (fun h => ?_) (fun h => ?_)
  · simp only [Bool.and_eq_true, decide_eq_true_eq] at h
    have hlt : i < l.length := by omega
    have hnm : n < 600 := by omega
    have hmem := List.getElem_mem hlt
    refine hs.ld (Heap.le.refl _) rfl hlt fun y hy => ?_
    refine weight_ok (m := 600) hy (hB.mem hmem) (by omega) (by omega) fun r r1 r2 r3 => ?_
    rw [w_i64 (by omega) (by omega), w_i64 (by omega) (by omega)]
    refine ⟨⟨rfl, i + 1, n + r, by simp, by omega, by omega, fun hh => ?_⟩, by first | omega | (dsimp only; omega)⟩
    rw [vsizes_take hlt]
    have := r3 (by omega)
    have := hn3 hnm
    omega
  · refine k _ fun hh => ?_
    have hn : ¬ ((n : Int) ≥ 600) := of_decide_eq_false hh
    have hie : i = l.length := by
      simp only [Bool.and_eq_false_iff, decide_eq_false_iff_not] at h
      omega
    have := hn3 (by omega)
    rw [hie, List.take_length] at this
    omega

end
end Sx
end

noncomputable section
set_option linter.unusedVariables false
set_option linter.unusedSimpArgs false
namespace Sx
open Go Go.Proofs
section
variable {C : Ctx} {H : Heap}
theorem ValueTexts_ok (hF : FmtC C) {v w : V} {x y : TV} {K : Bool → Heap → Prop} (hv : VIs H v x) (hw : VIs H w y) (Bv : VB v) (Bw : VB w) (k : ∀ H2, K true H2) : c_law02_ValueTexts C x y K H := by
  apply ad_law02_ValueTexts
  unfold sh_law02_ValueTexts
  intro b1 n1 b3 n3
  have ne : b1 ≠ b3 := fun e => by rw [e, Heap.put_same] at n3; cases n3
  have h3 : ((H.put b1 (.row (T_api_Value.c x))).put b3 (.row (T_api_Value.c y))) b3 = some (true, .row (T_api_Value.c y)) := Heap.put_same ..
  have h1 : ((H.put b1 (.row (T_api_Value.c x))).put b3 (.row (T_api_Value.c y))) b1 = some (true, .row (T_api_Value.c x)) := by rw [Heap.put_ne _ _ _ ne, Heap.put_same]
  have hle := (Heap.le_put n1 (g := .row (T_api_Value.c x)) (m := true)).trans (Heap.le_put n3 (g := .row (T_api_Value.c y)) (m := true))
  generalize (H.put b1 (.row (T_api_Value.c x))).put b3 (.row (T_api_Value.c y)) = H4 at *
  have hv := hv.le hle
  have hw := hw.le hle
  refine bxV h1 (bxV h3 ?_)
  intro b9 n9
  have l9 := Heap.le_put n9 (g := .row (T_api_Value.c x ++ T_api_Value.c y ++ [])) (m := true)
  refine heavy_ok (lit_row (vs := [v, w]) (xs := [x, y]) (Heap.put_same ..) (by simp) rfl ⟨hv.le l9, hw.le l9, trivial⟩) (by simp) ⟨Bv, Bw, trivial⟩ fun r hr => ?_
  refine ⟨fun b E => H4.le E ∧ (b = false → vsizes [v, w] ≤ 600), ift.of (fun _ => ⟨l9, fun h => by cases h⟩) (fun h => awakeF_ok hF fun H2 h2 => ⟨l9.trans h2, fun _ => hr h⟩), ?_⟩
  rintro b E ⟨lE, h600⟩
  refine ift.of (fun _ => awakeF_ok hF fun H2 _ => k H2) (fun hb => ?_)
  have hs := h600 hb
  simp only [vsizes] at hs
  refine bxV (lE _ _ h1) (value_Check_ok (hv.le lE) Bv ?_)
  refine ⟨fun b F => F = E ∧ (b = false → mayV v = true ∧ mayV w = true), ?_, ?_⟩
  · rw [bne, mayV_dec]
    refine ift.of (fun _ => ⟨rfl, fun h => by cases h⟩) (fun hm => bxV (lE _ _ h3) (value_Check_ok (hw.le lE) Bw ⟨rfl, fun h2 => ⟨by simpa using hm, ?_⟩⟩))
    rw [bne, mayV_dec] at h2
    simpa using h2
  rintro b F ⟨rfl, hm⟩
  refine ift.of (fun _ => k _) (fun hb2 => ?_)
  obtain ⟨mv, mw⟩ := hm hb2
  have f1 := lE _ _ h1
  have f3 := lE _ _ h3
  refine ⟨F, Heap.le.refl _, bxV f1 (bxV f3 (bxV f1 (bxV f3 ?_)))⟩
  refine Show_ok hF (hv.le lE) Bv (fun h => show_may Bv h (by omega)) fun H49 h49 => ⟨h49, Show_ok hF (hw.le (lE.trans h49)) Bw (fun h => show_may Bw h (by omega)) fun H52 h52 => ⟨h49.trans h52, Same_ok (hv.le (lE.trans (h49.trans h52))) (hw.le (lE.trans (h49.trans h52))) Bv ⟨h49.trans h52, ?_⟩⟩⟩
  rw [if_pos mv, if_pos mw, show_same mv mw]
  refine ift_pos (by simp) (bxV f1 (Show_ok hF (hv.le (lE.trans (h49.trans h52))) Bv (fun h => show_may Bv h (by omega)) fun H61 h61 => ⟨(h49.trans h52).trans h61, ?_⟩))
  rw [if_pos mv]
  obtain ⟨c, t, e, _⟩ := show_head (mayV_form mv)
  rw [e]
  exact k _
end
end Sx
end

