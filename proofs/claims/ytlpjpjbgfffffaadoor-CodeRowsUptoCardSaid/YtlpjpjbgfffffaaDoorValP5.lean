/-
  The document's order of values; whether they are the same.
-/
import Derived.Test.YtlpjpjbgfffffaaDoorValP4
set_option linter.unusedVariables false
set_option linter.unusedSimpArgs false
set_option maxRecDepth 10000
namespace Sx
open Go Go.Proofs

theorem vcmpS_nil_l (t : Str) : vcmpS [] t = sgn 0 t.length := by
  cases t with
  | nil => rfl
  | cons c t => unfold vcmpS sgn; rw [if_pos (by simp <;> omega)]
theorem vcmpS_nil_r (t : Str) : vcmpS t [] = sgn t.length 0 := by
  cases t with
  | nil => rfl
  | cons c t => unfold vcmpS sgn; rw [if_neg (by simp <;> omega), if_pos (by simp <;> omega)]
theorem sgn_add (a b : Int) (i : Int) : sgn (a + i) (b + i) = sgn a b := by
  unfold sgn
  by_cases h : a < b
  · rw [if_pos h, if_pos (by omega)]
  · rw [if_neg h, if_neg (by omega)]
    by_cases h2 : b < a
    · rw [if_pos h2, if_pos (by omega)]
    · rw [if_neg h2, if_neg (by omega)]
theorem cmpVs_nil_l (t : List V) : cmpVs [] t = sgn 0 t.length := by
  cases t with
  | nil => simp [cmpVs, sgn]
  | cons c t => simp only [cmpVs]; unfold sgn; rw [if_pos (by simp <;> omega)]
theorem cmpVs_nil_r (t : List V) : cmpVs t [] = sgn t.length 0 := by
  cases t with
  | nil => simp [cmpVs, sgn]
  | cons c t => simp only [cmpVs]; unfold sgn; rw [if_neg (by simp <;> omega), if_pos (by simp <;> omega)]
theorem numS_isMin {s : Str} (h : numS s = true) (hm : isMin s = true) : isMin s.tail = false ∧ s.tail ≠ [] := by
  cases s with
  | nil => simp [isMin] at hm
  | cons c t =>
    have hc : c = 45 := by simpa [isMin] using hm
    subst hc
    cases t with
    | nil => simp [numS, unmin] at h
    | cons d u =>
      refine ⟨?_, by simp⟩
      simp only [numS, unmin, List.head?_cons, if_true, List.tail_cons, Bool.and_eq_true, List.all_cons] at h
      have hd := h.1.2.1
      unfold isMin
      simp only [List.tail_cons, List.head?_cons, Option.some.injEq, decide_eq_false_iff_not]
      rintro rfl
      simp [digC] at hd
theorem cmpB_min {a b : Str} (ha : isMin a = true) (hb : isMin b = true) : cmpB a b = cmpD b.tail a.tail := by unfold cmpB; rw [ha, hb]; rfl
theorem cmpB_no {a b : Str} (ha : isMin a = false) (hb : isMin b = false) : cmpB a b = cmpD a b := by unfold cmpB; rw [ha, hb]; rfl
theorem numS_ne {s : Str} (h : numS s = true) : s ≠ [] := fun e => by subst e; simp [numS, unmin] at h

section
variable {C : Ctx} {H : Heap}

theorem ints_ok {a b : Int} {K : Int → Heap → Prop} (k : K (sgn a b) H) : c_ref02_ints C a b K H := by
  apply ad_ref02_ints
  unfold sh_ref02_ints
  unfold sgn at k
  refine ift.of (fun h => ?_) (fun h => ?_)
  · rw [if_pos (of_decide_eq_true h)] at k; exact k
  rw [if_neg (of_decide_eq_false h)] at k
  refine ift.of (fun h => ?_) (fun h => ?_)
  · rw [if_pos (of_decide_eq_true h)] at k; exact k
  · rw [if_neg (of_decide_eq_false h)] at k; exact k

theorem texts_ok {a b : Str} {K : Int → Heap → Prop} (ha : a.length ≤ 140737488355328) (hb : b.length ≤ 140737488355328) (k : K (vcmpS a b) H) : c_ref02_texts C a b K H := by
  apply ad_ref02_texts
  unfold sh_ref02_texts
  refine ⟨fun x H' => ∃ i : Nat, x = (i : Int) ∧ i ≤ a.length ∧ i ≤ b.length ∧ H = H' ∧ vcmpS a b = vcmpS (a.drop i) (b.drop i), fun x _ => a.length - x.toNat, ⟨0, rfl, Nat.zero_le _, Nat.zero_le _, rfl, rfl⟩, ?_⟩
  rintro x _ ⟨i, rfl, hi, hi2, rfl, hc⟩
  refine ift.of (fun h => ?_) (fun h => ?_)
  · simp only [Bool.and_eq_true, decide_eq_true_eq] at h
    have h1 : i < a.length := by omega
    have h2 : i < b.length := by omega
    rw [List.drop_eq_getElem_cons h1, List.drop_eq_getElem_cons h2] at hc
    have g1 := getE h1
    have g2 := getE h2
    generalize a[i] = c at *
    generalize b[i] = d at *
    refine ⟨c, by omega, g1, d, by omega, g2, ?_⟩
    have hcl : c.toNat < 256 := c.toBitVec.isLt
    have hdl : d.toNat < 256 := d.toBitVec.isLt
    refine ift.of (fun h => ?_) (fun h => ?_)
    · have hne : c ≠ d := fun e => by subst e; simp at h
      simp only [vcmpS, if_neg hne] at hc
      refine ⟨H, Heap.le.refl _, c, by omega, g1, d, by omega, g2, ?_⟩
      dsimp only
      rw [w_i64 (by omega) (by omega), w_i64 (by omega) (by omega)]
      refine ints_ok ⟨Heap.le.refl _, ?_⟩
      rw [hc] at k; exact k
    · have he : c = d := UInt8.toNat_inj.1 (by simp at h; omega)
      simp only [vcmpS, if_pos he] at hc
      rw [w_i64 (by omega) (by omega)]
      exact ⟨⟨i + 1, by omega, by omega, by omega, rfl, hc⟩, by first | omega | (dsimp only; omega)⟩
  · simp only [Bool.and_eq_false_iff, decide_eq_false_iff_not] at h
    refine ints_ok ?_
    have e : vcmpS a b = sgn a.length b.length := by
      rcases h with h | h
      · have : i = a.length := by omega
        subst this
        rw [hc, List.drop_length, vcmpS_nil_l, List.length_drop]
        have := sgn_add 0 ((b.length - a.length : Nat) : Int) a.length
        rw [← this]; congr 1 <;> omega
      · have : i = b.length := by omega
        subst this
        rw [hc, List.drop_length, vcmpS_nil_r, List.length_drop]
        have := sgn_add ((a.length - b.length : Nat) : Int) 0 b.length
        rw [← this]; congr 1 <;> omega
    rw [e] at k; exact k

theorem isMin_eq {c : UInt8} {t : Str} : ((c.toNat : Int) == 45) = isMin (c :: t) := by rw [e45]; unfold isMin; simp
theorem bigs0_ok {a b : Str} {K : Int → Heap → Prop} (ha : a.length ≤ 140737488355328) (hb : b.length ≤ 140737488355328) (na : a ≠ []) (nb : b ≠ []) (ma : isMin a = false) (mb : isMin b = false) (k : K (cmpD a b) H) : c_ref02_Bigs C a b K H := by
  apply ad_ref02_Bigs
  unfold sh_ref02_Bigs
  cases a with
  | nil => exact absurd rfl na
  | cons c a =>
  cases b with
  | nil => exact absurd rfl nb
  | cons d b =>
  refine ⟨c, by omega, rfl, d, by omega, rfl, ?_⟩
  dsimp only
  rw [isMin_eq (t := a), isMin_eq (t := b), ma, mb]
  refine ift_neg rfl (ift_neg rfl ?_)
  unfold cmpD at k
  refine ift.of (fun h => ?_) (fun h => ?_)
  · refine ints_ok ?_
    rw [if_neg (by simp at h ⊢; omega)] at k; exact k
  · rw [if_pos (by simp at h ⊢; omega)] at k
    exact texts_ok ha hb k
theorem bigs_ok {a b : Str} {K : Int → Heap → Prop} (ha : a.length ≤ 140737488355328) (hb : b.length ≤ 140737488355328) (na : numS a = true) (nb : numS b = true) (k : K (cmpB a b) H) : c_ref02_Bigs C a b K H := by
  by_cases hn : isMin a = false ∧ isMin b = false
  · rw [cmpB_no hn.1 hn.2] at k
    exact bigs0_ok ha hb (numS_ne na) (numS_ne nb) hn.1 hn.2 k
  apply ad_ref02_Bigs
  unfold sh_ref02_Bigs
  have nea := numS_ne na
  have neb := numS_ne nb
  cases a with
  | nil => exact absurd rfl nea
  | cons c a =>
  cases b with
  | nil => exact absurd rfl neb
  | cons d b =>
  refine ⟨c, by omega, rfl, d, by omega, rfl, ?_⟩
  dsimp only
  rw [isMin_eq (t := a), isMin_eq (t := b)]
  unfold cmpB at k
  cases ma : isMin (c :: a) with
  | false =>
    rw [ma] at k hn
    cases mb : isMin (d :: b) with
    | false => rw [mb] at hn; exact absurd ⟨rfl, rfl⟩ hn
    | true => rw [mb] at k; exact ift_pos rfl (ift_neg rfl k)
  | true =>
    rw [ma] at k
    cases mb : isMin (d :: b) with
    | false => rw [mb] at k; exact ift_pos rfl (ift_pos rfl k)
    | true =>
      rw [mb] at k
      refine ift_neg rfl (ift_pos rfl ?_)
      obtain ⟨h1, h2⟩ := numS_isMin na ma
      obtain ⟨h3, h4⟩ := numS_isMin nb mb
      refine ⟨H, Heap.le.refl _, by omega, by simp only [List.length_cons]; omega, by omega, b, ?_, by omega, by simp only [List.length_cons]; omega, by omega, a, ?_, ?_⟩
      · rw [List.take_of_length_le (by omega)]; rfl
      · rw [List.take_of_length_le (by omega)]; rfl
      · simp only [List.length_cons] at ha hb
        exact bigs0_ok (by omega) (by omega) h4 h2 h3 h1 ⟨Heap.le.refl _, k⟩

theorem rows_ok {l m : List V} {s t : Sl} {H : Heap} {K : Int → Heap → Prop} (hs : VRow H s l) (ht : VRow H t m) (hl : l.length ≤ 140737488355328) (hm : m.length ≤ 140737488355328)
    (ih : ∀ v ∈ l, ∀ w ∈ m, ∀ {x y : TV} {K : Int → Heap → Prop}, VIs H v x → VIs H w y → K (cmpV v w) H → c_ref02_cmp C x y K H) (k : K (cmpVs l m) H) : c_ref02_rows C s t K H := by
  apply ad_ref02_rows
  unfold sh_ref02_rows
  have hsl := hs.len
  have htl := ht.len
  rw [hsl, htl]
  refine ⟨fun x H' => ∃ i : Nat, x = (i : Int) ∧ i ≤ l.length ∧ i ≤ m.length ∧ H = H' ∧ cmpVs l m = cmpVs (l.drop i) (m.drop i), fun x _ => l.length - x.toNat, ⟨0, rfl, Nat.zero_le _, Nat.zero_le _, rfl, rfl⟩, ?_⟩
  rintro x _ ⟨i, rfl, hi, hi2, rfl, hc⟩
  refine ift.of (fun h => ?_) (fun h => ?_)
  · simp only [Bool.and_eq_true, decide_eq_true_eq] at h
    have h1 : i < l.length := by omega
    have h2 : i < m.length := by omega
    have m1 := List.getElem_mem h1
    have m2 := List.getElem_mem h2
    rw [List.drop_eq_getElem_cons h1, List.drop_eq_getElem_cons h2] at hc
    refine ⟨H, Heap.le.refl _, ?_⟩
    refine hs.ld (Heap.le.refl _) rfl h1 fun y hy => ?_
    refine ht.ld (Heap.le.refl _) rfl h2 fun z hz => ?_
    refine ih _ m1 _ m2 hy hz ⟨Heap.le.refl _, ?_⟩
    simp only [cmpVs] at hc
    refine ift.of (fun h => ?_) (fun h => ?_)
    · rw [if_pos (by simpa using h)] at hc
      rw [hc] at k; exact k
    · rw [if_neg (by simpa using h)] at hc
      rw [w_i64 (by omega) (by omega)]
      exact ⟨⟨i + 1, by omega, by omega, by omega, rfl, hc⟩, by first | omega | (dsimp only; omega)⟩
  · simp only [Bool.and_eq_false_iff, decide_eq_false_iff_not] at h
    refine ints_ok ?_
    have e : cmpVs l m = sgn l.length m.length := by
      rcases h with h | h
      · have : i = l.length := by omega
        subst this
        rw [hc, List.drop_length, cmpVs_nil_l, List.length_drop]
        have := sgn_add 0 ((m.length - l.length : Nat) : Int) l.length
        rw [← this]; congr 1 <;> omega
      · have : i = m.length := by omega
        subst this
        rw [hc, List.drop_length, cmpVs_nil_r, List.length_drop]
        have := sgn_add ((l.length - m.length : Nat) : Int) 0 m.length
        rw [← this]; congr 1 <;> omega
    rw [e] at k; exact k

theorem cmpV_eq (v w : V) : cmpV v w = if v.k ≠ w.k then sgn v.k w.k else if v.k = 3 then cmpB v.s w.s else if v.k = 4 then vcmpS v.s w.s else if v.k = 5 then cmpVs v.l w.l else if v.k = 6 then (if vcmpS v.s w.s ≠ 0 then vcmpS v.s w.s else cmpVs v.l w.l) else sgn v.n w.n := by
  obtain ⟨k, n, s, l⟩ := v
  obtain ⟨k', n', s', l'⟩ := w
  simp only [cmpV, V.k, V.n, V.s, V.l]
  rfl

theorem cmp_ok {v w : V} {x y : TV} {H : Heap} {K : Int → Heap → Prop} (hv : VIs H v x) (hw : VIs H w y) (hB : VB v) (hB2 : VB w) (hF : formV v = true) (hF2 : formV w = true) (k : K (cmpV v w) H) : c_ref02_cmp C x y K H := by
  refine V.rec_ (P := fun v => ∀ {w x y H} {K : Int → Heap → Prop}, VIs H v x → VIs H w y → VB v → VB w → formV v = true → formV w = true → K (cmpV v w) H → c_ref02_cmp C x y K H) (fun v ih => ?_) v hv hw hB hB2 hF hF2 k
  clear hv hw hB hB2 hF hF2 k
  intro w x y H K hv hw hB hB2 hF hF2 k
  apply c_ref02_cmp.gh
  apply ad_ref02_cmp
  unfold sh_ref02_cmp
  intro b1 n1 b3 n3
  have hb3 : ((H.put b1 (.row (T_api_Value.c x))).put b3 (.row (T_api_Value.c y))) b3 = some (true, .row (T_api_Value.c y)) := Heap.put_same ..
  have hne : b1 ≠ b3 := fun e => by rw [e, Heap.put_same] at n3; cases n3
  have hb1 : ((H.put b1 (.row (T_api_Value.c x))).put b3 (.row (T_api_Value.c y))) b1 = some (true, .row (T_api_Value.c x)) := by rw [Heap.put_ne _ _ _ hne, Heap.put_same]
  have hle := (Heap.le_put n1 (g := .row (T_api_Value.c x)) (m := true)).trans (Heap.le_put n3 (g := .row (T_api_Value.c y)) (m := true))
  generalize (H.put b1 (.row (T_api_Value.c x))).put b3 (.row (T_api_Value.c y)) = H1 at *
  have k' : ∃ H0, Gh C H1 H0 ∧ K (cmpV v w) H0 := ⟨H, Gh.le hle, k⟩
  have hk1 := hB.k
  have hk2 := hB2.k
  rw [formV_eq, Bool.and_eq_true] at hF hF2
  rw [cmpV_eq] at k'
  refine bxK hb1 (bxK hb3 ?_)
  rw [hv.kind, hw.kind]
  refine ift.of (fun h => ?_) (fun h => ?_)
  · refine bxK hb1 (bxK hb3 ?_)
    rw [hv.kind, hw.kind, w_i64 (by omega) (by omega), w_i64 (by omega) (by omega)]
    refine ints_ok ?_
    rw [if_pos (by simpa using h)] at k'; exact k'
  have hkk : v.k = w.k := by simpa using h
  rw [if_neg (by simp [hkk])] at k'
  have hr1 := hv.row.le hle
  have hr2 := hw.row.le hle
  have hrows : ∀ {K : Int → Heap → Prop}, K (cmpVs v.l w.l) H1 → c_ref02_rows C x.L y.L K H1 := fun k => by
    refine rows_ok hr1 hr2 hB.l hB2.l (fun p hp q hq {x' y'} {K'} hx hy kk => ih p hp hx hy (hB.ls.mem hp) (hB2.ls.mem hq) (formVs_mem hp hF.2) (formVs_mem hq hF2.2) kk) k
  refine bxK hb1 ?_
  rw [hv.kind]
  refine ift.of (fun h => ?_) (fun h => ?_)
  · have h : v.k = 3 := by simpa using h
    rw [if_pos h] at k'
    refine bxS hb1 (bxS hb3 ?_)
    rw [hv.txt, hw.txt]
    exact bigs_ok hB.s hB2.s (okN_num hF.1 h) (okN_num hF2.1 (by omega)) k'
  rw [if_neg (by simpa using h)] at k'
  refine ift.of (fun h => ?_) (fun h => ?_)
  · have h : v.k = 4 := by simpa using h
    rw [if_pos h] at k'
    refine bxS hb1 (bxS hb3 ?_)
    rw [hv.txt, hw.txt]
    exact texts_ok hB.s hB2.s k'
  rw [if_neg (by simpa using h)] at k'
  refine ift.of (fun h => ?_) (fun h => ?_)
  · have h : v.k = 5 := by simpa using h
    rw [if_pos h] at k'
    exact bxL hb1 (bxL hb3 (hrows k'))
  rw [if_neg (by simpa using h)] at k'
  refine ift.of (fun h => ?_) (fun h => ?_)
  · have h : v.k = 6 := by simpa using h
    rw [if_pos h] at k'
    refine bxS hb1 (bxS hb3 ?_)
    rw [hv.txt, hw.txt]
    refine texts_ok hB.s hB2.s ?_
    refine ift.of (fun h => ?_) (fun h => ?_)
    · rw [if_pos (by simpa using h)] at k'; exact k'
    · rw [if_neg (by simpa using h)] at k'
      exact bxL hb1 (bxL hb3 (hrows k'))
  rw [if_neg (by simpa using h)] at k'
  refine bxN hb1 (bxN hb3 ?_)
  rw [hv.num, hw.num]
  exact ints_ok k'

theorem last_ok {a b : Bool} {K : Int → Heap → Prop} (k : K (lastB a b) H) : c_ref02_last C a b K H := by
  apply ad_ref02_last
  unfold sh_ref02_last
  unfold lastB at k
  refine ift.of (fun h => ?_) (fun h => ?_)
  · rw [if_pos (by simpa using h)] at k; exact k
  rw [if_neg (by simpa using h)] at k
  refine ift.of (fun h => ?_) (fun h => ?_)
  · rw [if_pos h] at k; exact k
  · rw [if_neg (by rw [h]; decide)] at k; exact k

theorem mayV_dec (v : V) : ((checkV v : Int) == 0) = mayV v := by unfold mayV; rw [Bool.eq_iff_iff]; simp
theorem mayV_form {v : V} (h : mayV v = true) : formV v = true := ((mayV_iff v).1 h).2.1

theorem ref02_Cmp_ok {v w : V} {x y : TV} {H : Heap} {K : Int → Heap → Prop} (hv : VIs H v x) (hw : VIs H w y) (hB : VB v) (hB2 : VB w) (hs : vsize v ≤ 4611686018427387904) (hs2 : vsize w ≤ 4611686018427387904) (k : K (cmpA v w) H) : c_ref02_Cmp C x y K H := by
  apply c_ref02_Cmp.gh
  apply ad_ref02_Cmp
  unfold sh_ref02_Cmp
  intro b1 n1 b3 n3
  have hb3 : ((H.put b1 (.row (T_api_Value.c x))).put b3 (.row (T_api_Value.c y))) b3 = some (true, .row (T_api_Value.c y)) := Heap.put_same ..
  have hne : b1 ≠ b3 := fun e => by rw [e, Heap.put_same] at n3; cases n3
  have hb1 : ((H.put b1 (.row (T_api_Value.c x))).put b3 (.row (T_api_Value.c y))) b1 = some (true, .row (T_api_Value.c x)) := by rw [Heap.put_ne _ _ _ hne, Heap.put_same]
  have hle := (Heap.le_put n1 (g := .row (T_api_Value.c x)) (m := true)).trans (Heap.le_put n3 (g := .row (T_api_Value.c y)) (m := true))
  generalize (H.put b1 (.row (T_api_Value.c x))).put b3 (.row (T_api_Value.c y)) = H1 at *
  have k' : ∃ H0, Gh C H1 H0 ∧ K (cmpA v w) H0 := ⟨H, Gh.le hle, k⟩
  refine ⟨H1, Heap.le.refl _, bxV hb1 (bxV hb3 ?_)⟩
  refine ref02_Check_ok (hv.le hle) hB hs ⟨Heap.le.refl _, ?_⟩
  refine ref02_Check_ok (hw.le hle) hB2 hs2 ⟨Heap.le.refl _, ?_⟩
  rw [mayV_dec, mayV_dec]
  unfold cmpA at k'
  refine ift.of (fun h => ?_) (fun h => ?_)
  · refine last_ok ?_
    rw [if_neg (by intro hh; rw [hh.1, hh.2] at h; cases h)] at k'; exact k'
  · have h1 : mayV v = true ∧ mayV w = true := by simpa using h
    rw [if_pos h1] at k'
    exact bxV hb1 (bxV hb3 (cmp_ok (hv.le hle) (hw.le hle) hB hB2 (mayV_form h1.1) (mayV_form h1.2) k'))

theorem mayR_no {l : List V} {v : V} (h : v ∈ l) (hv : mayV v = false) : mayR l = false := by unfold mayR; rw [List.all_eq_false]; exact ⟨v, h, by simp [hv]⟩
theorem Row_ok {l : List V} {t : Sl} {H : Heap} {K : Bool → Heap → Prop} (ht : VRow H t l) (hl : l.length ≤ 140737488355328) (hB : VBs l) (hs : ∀ v ∈ l, vsize v ≤ 4611686018427387904) (k : K (mayR l) H) : c_ref02_Row C t K H := by
  apply ad_ref02_Row
  unfold sh_ref02_Row
  rw [ht.len]
  refine ⟨fun x H' => ∃ i : Nat, x = (i : Int) ∧ i ≤ l.length ∧ H = H' ∧ (l.take i).all mayV = true, fun x _ => l.length - x.toNat, ⟨0, rfl, Nat.zero_le _, rfl, rfl⟩, ?_⟩
  rintro x _ ⟨i, rfl, hi, rfl, ha⟩
  refine ift.of (fun h => ?_) (fun h => ?_)
  · have hlt : i < l.length := by have := of_decide_eq_true h; omega
    have hm := List.getElem_mem hlt
    refine ht.ld (Heap.le.refl _) rfl hlt fun y hy => ?_
    refine ref02_Check_ok hy (hB.mem hm) (hs _ hm) ?_
    rw [bne, mayV_dec]
    refine ift.of (fun h => ?_) (fun h => ?_)
    · rw [mayR_no hm (by simpa using h)] at k; exact k
    · rw [w_i64 (by omega) (by omega)]
      refine ⟨⟨i + 1, by omega, by omega, rfl, ?_⟩, by first | omega | (dsimp only; omega)⟩
      rw [all_take hlt, ha]; simpa using h
  · have hie : i = l.length := by have := of_decide_eq_false h; omega
    rw [hie, List.take_length] at ha
    unfold mayR at k
    rw [ha] at k; exact k

theorem ref02_CmpRows_ok {l m : List V} {s t : Sl} {H : Heap} {K : Int → Heap → Prop} (hs : VRow H s l) (ht : VRow H t m) (hl : l.length ≤ 140737488355328) (hm : m.length ≤ 140737488355328) (hB : VBs l) (hB2 : VBs m) (hz : ∀ v ∈ l, vsize v ≤ 4611686018427387904) (hz2 : ∀ v ∈ m, vsize v ≤ 4611686018427387904) (k : K (cmpR l m) H) : c_ref02_CmpRows C s t K H := by
  apply ad_ref02_CmpRows
  unfold sh_ref02_CmpRows
  refine Row_ok hs hl hB hz (Row_ok ht hm hB2 hz2 ?_)
  unfold cmpR at k
  refine ift.of (fun h => ?_) (fun h => ?_)
  · refine last_ok ?_
    rw [if_neg (by intro hh; rw [hh.1, hh.2] at h; cases h)] at k; exact k
  · have h1 : mayR l = true ∧ mayR m = true := by simpa using h
    rw [if_pos h1] at k
    refine rows_ok hs ht hl hm (fun p hp q hq {x' y'} {K'} hx hy kk => ?_) k
    have e1 := List.all_eq_true.1 h1.1 p hp
    have e2 := List.all_eq_true.1 h1.2 q hq
    exact cmp_ok hx hy (hB.mem hp) (hB2.mem hq) (mayV_form e1) (mayV_form e2) kk

theorem sameVs_len : ∀ {l m : List V}, sameVs l m = true → l.length = m.length
  | [], [], _ => rfl
  | [], _ :: _, h => by simp [sameVs] at h
  | _ :: _, [], h => by simp [sameVs] at h
  | v :: l, w :: m, h => by
    simp only [sameVs, Bool.and_eq_true] at h
    have := sameVs_len h.2
    simp [this]
theorem SameRow_gen {l m : List V} {s t : Sl} {H : Heap} {K : Bool → Heap → Prop} (hs : VRow H s l) (ht : VRow H t m) (hl : l.length ≤ 140737488355328)
    (ih : ∀ v ∈ l, ∀ w, ∀ {x y : TV} {K : Bool → Heap → Prop}, VIs H v x → VIs H w y → w ∈ m → K (sameV v w) H → c_ref02_Same C x y K H) (k : K (sameVs l m) H) : c_ref02_SameRow C s t K H := by
  apply ad_ref02_SameRow
  unfold sh_ref02_SameRow
  rw [hs.len, ht.len]
  by_cases hlm : l.length = m.length
  rotate_left
  · refine ift_pos (by simp; omega) ?_
    cases hh : sameVs l m with
    | true => exact absurd (sameVs_len hh) hlm
    | false => rw [hh] at k; exact k
  refine ift_neg (by simp; omega) ?_
  refine ⟨fun x H' => ∃ i : Nat, x = (i : Int) ∧ i ≤ l.length ∧ H = H' ∧ sameVs l m = sameVs (l.drop i) (m.drop i), fun x _ => l.length - x.toNat, ⟨0, rfl, Nat.zero_le _, rfl, rfl⟩, ?_⟩
  rintro x _ ⟨i, rfl, hi, rfl, ha⟩
  refine ift.of (fun h => ?_) (fun h => ?_)
  · have h1 : i < l.length := by have := of_decide_eq_true h; omega
    have h2 : i < m.length := by omega
    have m1 := List.getElem_mem h1
    have m2 := List.getElem_mem h2
    rw [List.drop_eq_getElem_cons h1, List.drop_eq_getElem_cons h2] at ha
    simp only [sameVs] at ha
    refine ⟨H, Heap.le.refl _, ?_⟩
    refine hs.ld (Heap.le.refl _) rfl h1 fun y hy => ?_
    refine ht.ld (Heap.le.refl _) rfl h2 fun z hz => ?_
    refine ih _ m1 _ hy hz m2 ⟨Heap.le.refl _, ?_⟩
    refine ift.of (fun h => ?_) (fun h => ?_)
    · have h : sameV l[i] m[i] = false := by simpa using h
      rw [ha, h] at k; exact k
    · have h : sameV l[i] m[i] = true := by simpa using h
      rw [h, Bool.true_and] at ha
      rw [w_i64 (by omega) (by omega)]
      exact ⟨⟨i + 1, by omega, by omega, rfl, ha⟩, by first | omega | (dsimp only; omega)⟩
  · have hie : i = l.length := by have := of_decide_eq_false h; omega
    rw [hie, List.drop_length, hlm, List.drop_length] at ha
    rw [ha] at k; exact k

theorem sameV_eqn (v w : V) : sameV v w = (v.k == w.k && v.n == w.n && decide (v.s = w.s) && sameVs v.l w.l) := by
  obtain ⟨k, n, s, l⟩ := v
  obtain ⟨k', n', s', l'⟩ := w
  simp only [sameV, V.k, V.n, V.s, V.l]
  rfl

theorem Same_ok {v w : V} {x y : TV} {H : Heap} {K : Bool → Heap → Prop} (hv : VIs H v x) (hw : VIs H w y) (hB : VB v) (k : K (sameV v w) H) : c_ref02_Same C x y K H := by
  refine V.rec_ (P := fun v => ∀ {w x y H} {K : Bool → Heap → Prop}, VIs H v x → VIs H w y → VB v → K (sameV v w) H → c_ref02_Same C x y K H) (fun v ih => ?_) v hv hw hB k
  clear hv hw hB k
  intro w x y H K hv hw hB k
  apply c_ref02_Same.gh
  apply ad_ref02_Same
  unfold sh_ref02_Same
  intro b1 n1 b3 n3
  have hb3 : ((H.put b1 (.row (T_api_Value.c x))).put b3 (.row (T_api_Value.c y))) b3 = some (true, .row (T_api_Value.c y)) := Heap.put_same ..
  have hne : b1 ≠ b3 := fun e => by rw [e, Heap.put_same] at n3; cases n3
  have hb1 : ((H.put b1 (.row (T_api_Value.c x))).put b3 (.row (T_api_Value.c y))) b1 = some (true, .row (T_api_Value.c x)) := by rw [Heap.put_ne _ _ _ hne, Heap.put_same]
  have hle := (Heap.le_put n1 (g := .row (T_api_Value.c x)) (m := true)).trans (Heap.le_put n3 (g := .row (T_api_Value.c y)) (m := true))
  generalize (H.put b1 (.row (T_api_Value.c x))).put b3 (.row (T_api_Value.c y)) = H1 at *
  have k' : ∃ H0, Gh C H1 H0 ∧ K (sameV v w) H0 := ⟨H, Gh.le hle, k⟩
  rw [sameV_eqn] at k'
  refine bxK hb1 (bxK hb3 ?_)
  rw [hv.kind, hw.kind]
  refine ⟨fun b H' => H1 = H' ∧ b = (v.k == w.k && v.n == w.n), ?_, ?_⟩
  · refine ift.of (fun h => ?_) (fun h => ⟨rfl, by rw [h]; rfl⟩)
    refine bxN hb1 (bxN hb3 ⟨rfl, ?_⟩)
    rw [h, hv.num, hw.num]; rfl
  rintro _ _ ⟨rfl, rfl⟩
  refine ⟨fun b H' => H1 = H' ∧ b = (v.k == w.k && v.n == w.n && decide (v.s = w.s)), ?_, ?_⟩
  · refine ift.of (fun h => ?_) (fun h => ⟨rfl, by rw [h]; rfl⟩)
    refine bxS hb1 (bxS hb3 ⟨rfl, ?_⟩)
    rw [h, hv.txt, hw.txt, Bool.true_and, Bool.eq_iff_iff]; simp
  rintro _ _ ⟨rfl, rfl⟩
  refine ⟨fun b H' => H1 = H' ∧ b = (v.k == w.k && v.n == w.n && decide (v.s = w.s) && sameVs v.l w.l), ?_, ?_⟩
  · refine ift.of (fun h => ?_) (fun h => ⟨rfl, by rw [h]; rfl⟩)
    refine bxL hb1 (bxL hb3 ?_)
    refine SameRow_gen (hv.row.le hle) (hw.row.le hle) hB.l (fun p hp q {x' y'} {K'} hx hy _ kk => ih p hp hx hy (hB.ls.mem hp) kk) ⟨rfl, ?_⟩
    rw [h]; rfl
  rintro _ _ ⟨rfl, rfl⟩
  exact k'
theorem SameRow_ok {l m : List V} {s t : Sl} {H : Heap} {K : Bool → Heap → Prop} (hs : VRow H s l) (ht : VRow H t m) (hl : l.length ≤ 140737488355328) (hB : VBs l) (k : K (sameVs l m) H) : c_ref02_SameRow C s t K H :=
  SameRow_gen hs ht hl (fun p hp q {x y} {K} hx hy _ kk => Same_ok hx hy (hB.mem hp) kk) k
end
end Sx
