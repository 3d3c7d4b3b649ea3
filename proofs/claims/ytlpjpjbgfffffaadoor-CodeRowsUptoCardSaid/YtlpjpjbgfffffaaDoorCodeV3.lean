/-
  The bytes of values: the program's pen; the law of what is written.
-/
import Derived.Test.YtlpjpjbgfffffaaDoorCodeV2
set_option linter.unusedVariables false
set_option linter.unusedSimpArgs false
set_option maxRecDepth 10000
namespace Sx
open Go Go.Proofs

section
variable {C : Ctx} {H0 H : Heap}

theorem cutMin_ok {s : Str} {K : Str → Bool → Heap → Prop} (k : K (unmin s) (isMin s) H) : c_strings_CutPrefix C s [45] K H := by
  apply ad_strings_CutPrefix
  unfold sh_strings_CutPrefix
  apply ad_internal_stringslite_CutPrefix
  unfold sh_internal_stringslite_CutPrefix
  refine hasPrefix_ok ?_
  have e : ([45] : Str).isPrefixOf s = isMin s := by
    unfold isMin
    cases s with
    | nil => rfl
    | cons c t =>
      by_cases hc : c = 45
      · subst hc; simp [List.isPrefixOf]
      · simp [List.isPrefixOf, hc, Ne.symm hc]
  rw [e]
  cases hm : isMin s with
  | false =>
    rw [hm, isMin_no hm] at k
    exact ift_pos rfl k
  | true =>
    obtain ⟨h1, h2⟩ := isMin_yes hm
    rw [hm, h1] at k
    generalize s.tail = t at *
    subst h2
    refine ift_neg rfl ⟨by simp, by simp only [List.length_cons, List.length_nil]; omega, by omega, t, ?_, k⟩
    rw [List.take_of_length_le (by omega)]; rfl

theorem pen_truth_ok {b : Nat} {bs : Str} {v : V} {x : TV} {K : Heap → Prop} (h : PenF H0 H b bs 0) (hv : VIs H0 v x) (hn : v.n = 0 ∨ v.n = 1) (hm : bs.length + 1 ≤ 140737488355328)
    (k : ∀ H2, PenF H0 H2 b (bs ++ [if v.n = 1 then 1 else 0]) 0 → K H2) : c_code_pen_truth C (some (b, 0)) x K H := by
  apply ad_code_pen_truth
  unfold sh_code_pen_truth
  intro b1 n1
  refine bxN (Heap.put_same ..) ?_
  rw [hv.num]
  have hh := h.beside n1 (g := .row (T_api_Value.c x)) (m := true)
  have hd := fun {H2 : Heap} {bs : Str} {t : UInt8} (h2 : PenF (H0.put b1 (.row (T_api_Value.c x))) H2 b bs t) => h2.down (Heap.le_put (h.le.none n1))
  rcases hn with hn | hn
  · rw [hn] at k ⊢
    exact pen_put_lit hh (cs := [0]) rfl rfl (by simpa using hm) fun H2 h2 => k H2 (by simpa using hd h2)
  · rw [hn] at k ⊢
    exact pen_put_lit hh (cs := [1]) rfl rfl (by simpa using hm) fun H2 h2 => k H2 (by simpa using hd h2)

theorem pen_whole_ok {b : Nat} {bs : Str} {v : V} {x : TV} {K : Heap → Prop} (h : PenF H0 H b bs 0) (hv : VIs H0 v x) (hB : VB v) (hm : bs.length + 9 ≤ 140737488355328)
    (k : ∀ H2, PenF H0 H2 b (bs ++ Nm v.n) 0 → K H2) : c_code_pen_whole C (some (b, 0)) x K H := by
  apply ad_code_pen_whole
  unfold sh_code_pen_whole
  intro b1 n1
  refine bxN (Heap.put_same ..) ?_
  rw [hv.num]
  have hb := hB.n
  refine pen_num_ok (h.beside n1) hb.1 hb.2 hm fun H2 h2 => k H2 ?_
  rw [map_xor_zero] at h2
  exact h2.down (Heap.le_put (h.le.none n1))

theorem pen_words_ok {b : Nat} {bs : Str} {v : V} {x : TV} {K : Heap → Prop} (h : PenF H0 H b bs 0) (hv : VIs H0 v x) (hm : bs.length + 2 * v.s.length + 2 ≤ 140737488355328)
    (k : ∀ H2, PenF H0 H2 b (bs ++ Tx v.s) 0 → K H2) : c_code_pen_words C (some (b, 0)) x K H := by
  apply ad_code_pen_words
  unfold sh_code_pen_words
  intro b1 n1
  refine bxS (Heap.put_same ..) ?_
  rw [hv.txt]
  refine pen_text_ok (h.beside n1) hm fun H2 h2 => k H2 ?_
  rw [map_xor_zero] at h2
  exact h2.down (Heap.le_put (h.le.none n1))

theorem pen_big_ok {b : Nat} {bs : Str} {v : V} {x : TV} {K : Heap → Prop} (h : PenF H0 H b bs 0) (hv : VIs H0 v x) (hs : v.s.length < 2147483648) (hm : bs.length + v.s.length + 10 ≤ 140737488355328)
    (k : ∀ H2, PenF H0 H2 b (bs ++ Bg v.s) 0 → K H2) : c_code_pen_big C (some (b, 0)) x K H := by
  apply ad_code_pen_big
  unfold sh_code_pen_big
  intro b1 n1
  refine bxS (Heap.put_same ..) ?_
  rw [hv.txt]
  refine cutMin_ok ?_
  have hul := unmin_le v.s
  have hk := kl_le4 (n := (unmin v.s).length) (by omega)
  have hh := h.beside n1 (g := .row (T_api_Value.c x)) (m := true)
  refine pen_flip_ok hh fun H2 h2 => ?_
  refine pen_put_lit h2 (cs := [128]) rfl rfl (by simp; omega) fun H3 h3 => ?_
  rw [w_u64 (by omega) (by omega)]
  refine pen_number_ok (first := 0) h3 (by omega) (by omega) (by simp; omega) fun H4 h4 => ?_
  refine s2b_ok fun b2 cap H5 hb2 hH5 hcap hr5 => ?_
  subst hH5
  have h5 := h4.beside hb2 (g := .row (bytesV (unmin v.s) ++ List.replicate (cap - (unmin v.s).length) (.int .u8 0))) (m := true)
  refine pen_put_ok h5 (.inr ⟨rfl, (b2, 0), rfl, rds_row (Heap.put_same ..) fun j v' hj => ?_⟩) rfl (by simp [numB_len]; omega) fun H6 h6 => ?_
  · have := (List.getElem?_eq_some_iff.1 hj).1
    rw [Nat.zero_add, List.getElem?_append_left this]; exact hj
  refine pen_flip_ok h6 fun H7 h7 => k H7 ?_
  have h8 := (h7.down (Heap.le_put (h4.le.none hb2))).down (Heap.le_put (h.le.none n1))
  unfold Bg
  cases hmn : isMin v.s with
  | false => rw [hmn] at h8; simpa using h8
  | true => rw [hmn] at h8; simpa using h8

/-- the pen writes a value -/
def PenV (C : Ctx) (b : Nat) (w : V) : Prop := ∀ {H0 H : Heap} {bs : Str} {x : TV} {K : Heap → Prop}, PenF H0 H b bs 0 → VIs H0 w x → VB w → formV w = true → vtot w < 2147483648 → bs.length + vtot w ≤ 140737488355328 → (∀ H2, PenF H0 H2 b (bs ++ encV w) 0 → K H2) → c_code_pen_value C (some (b, 0)) x K H

theorem pen_list_ok {b : Nat} {bs : Str} {v : V} {x : TV} {K : Heap → Prop} (ih : ∀ w ∈ v.l, PenV C b w) (h : PenF H0 H b bs 0) (hv : VIs H0 v x) (hB : VB v) (hF : formVs v.l = true) (hs : vtot v < 2147483648) (hm : bs.length + vtots v.l + 10 ≤ 140737488355328)
    (k : ∀ H2, PenF H0 H2 b (bs ++ encVs v.l) 0 → K H2) : c_code_pen_list C (some (b, 0)) x K H := by
  apply ad_code_pen_list
  unfold sh_code_pen_list
  intro b1 n1
  have hh := h.beside n1 (g := .row (T_api_Value.c x)) (m := true)
  have hle0 := Heap.le_put (h.le.none n1) (g := .row (T_api_Value.c x)) (m := true)
  refine bxL (Heap.put_same ..) ?_
  have hr := hv.row
  have hl := hr.len
  have hbl := hB.l
  rw [vtot_eq] at hs
  generalize H0.put b1 (.row (T_api_Value.c x)) = B at *
  generalize H.put b1 (.row (T_api_Value.c x)) = H1 at *
  refine ⟨fun y H' => ∃ i : Nat, y = (i : Int) ∧ i ≤ v.l.length ∧ PenF B H' b (bs ++ encLs (v.l.take i)) 0, fun y _ => v.l.length - y.toNat, ⟨0, rfl, Nat.zero_le _, by simpa [encLs] using hh⟩, ?_⟩
  rintro y H2 ⟨i, rfl, hi, h2⟩
  have hlt3 := encLs_len (v.l.take i) fun w hw => encV_len w (hB.ls.mem (List.mem_of_mem_take hw)) (by have := vtots_mem (List.mem_of_mem_take hw); omega)
  have hvt := vtots_take v.l i
  rw [hl]
  refine ift.of (fun hc => ?_) (fun hc => ?_)
  · have hlt : i < v.l.length := by have := of_decide_eq_true hc; omega
    have hmem := List.getElem_mem hlt
    have hmv := vtots_mem hmem
    have hets := encLs_take hlt
    have hvt1 : vtots (v.l.take i) + vtot v.l[i] ≤ vtots v.l := by
      have h1 := vtots_take v.l (i + 1)
      have h3 : v.l.take (i + 1) = v.l.take i ++ [v.l[i]] := by rw [List.take_add_one, List.getElem?_eq_getElem hlt]; rfl
      rw [h3, vtots_append] at h1
      simpa [vtots] using h1
    refine hr.ld (hle0.trans h2.le) rfl hlt fun z hz => ?_
    intro b6 n6
    refine ⟨_, Heap.put_same .., by simp [T_api_Value.c], ?_⟩
    rw [Heap.put_put]
    have esp : splice (T_api_Value.c T_api_Value.zero) (b6, 0).2 (T_api_Value.c z) = T_api_Value.c z := rfl
    rw [esp]
    have h3 := h2.beside n6 (g := .row (T_api_Value.c z)) (m := true)
    have hle6 := Heap.le_put (h2.le.none n6) (g := .row (T_api_Value.c z)) (m := true)
    refine pen_put_lit h3 (cs := [1]) rfl rfl (by simp; omega) fun H4 h4 => ?_
    refine bxV (h4.le _ _ (Heap.put_same ..)) ?_
    refine ih _ hmem h4 (hz.le (hle0.trans hle6)) (hB.at hlt) (formVs_mem hmem hF) (by omega) (by simp; omega) fun H5 h5 => ?_
    rw [w_i64 (by omega) (by omega)]
    refine ⟨⟨i + 1, by omega, by omega, ?_⟩, by first | omega | (dsimp only; omega)⟩
    rw [hets]
    simpa using h5.down hle6
  · have hie : i = v.l.length := by have := of_decide_eq_false hc; omega
    subst hie
    rw [List.take_length] at h2 hlt3
    refine pen_put_lit h2 (cs := [0]) rfl rfl (by simp; omega) fun H4 h4 => k H4 ?_
    rw [encVs_eq]
    simpa using h4.down hle0

theorem pen_cons_ok {b : Nat} {bs : Str} {v : V} {x : TV} {K : Heap → Prop} (ih : ∀ w ∈ v.l, PenV C b w) (h : PenF H0 H b bs 0) (hv : VIs H0 v x) (hB : VB v) (hF : formVs v.l = true) (hs : vtot v < 2147483648) (hm : bs.length + vtots v.l + 2 * v.s.length + 12 ≤ 140737488355328)
    (k : ∀ H2, PenF H0 H2 b (bs ++ (Tx v.s ++ encVs v.l)) 0 → K H2) : c_code_pen_cons C (some (b, 0)) x K H := by
  apply ad_code_pen_cons
  unfold sh_code_pen_cons
  intro b1 n1
  have hh := h.beside n1 (g := .row (T_api_Value.c x)) (m := true)
  have hle0 := Heap.le_put (h.le.none n1) (g := .row (T_api_Value.c x)) (m := true)
  have hvt := vtot_eq v
  have htl := Tx_len v.s
  have hzc := zc_le v.s
  refine bxS (Heap.put_same ..) ?_
  rw [hv.txt]
  refine pen_text_ok hh (by omega) fun H2 h2 => ?_
  rw [map_xor_zero] at h2
  refine bxV (h2.le _ _ (Heap.put_same ..)) ?_
  refine pen_list_ok ih h2 (hv.le hle0) hB hF hs (by rw [List.length_append]; omega) fun H3 h3 => k H3 ?_
  rw [← List.append_assoc]
  exact h3.down hle0

theorem pen_value_ok {b : Nat} : ∀ v : V, PenV C b v := by
  refine V.rec_ fun v ih => ?_
  intro H0 H bs x K h hv hB hF hs hm k
  obtain ⟨hok, hfl⟩ := mayN v hF
  have hkk := hB.k
  have hk6 := okN_k hok
  have hvt := vtot_eq v
  apply ad_code_pen_value
  unfold sh_code_pen_value
  intro b1 n1
  have hh := h.beside n1 (g := .row (T_api_Value.c x)) (m := true)
  have hle1 := Heap.le_put (h.le.none n1) (g := .row (T_api_Value.c x)) (m := true)
  have hb1 : (H0.put b1 (.row (T_api_Value.c x))) b1 = some (true, .row (T_api_Value.c x)) := Heap.put_same ..
  intro b3 n3
  refine ⟨rfl, rfl, _, Heap.put_same .., by simp, ?_⟩
  rw [Heap.put_put]
  have esp : ∀ vs : List Value, vs.length = 7 → splice (List.replicate 7 (.nilFunc : Value)) (b3, 0).2 vs = vs := fun vs hl => by unfold splice; simp [hl]
  rw [esp _ rfl]
  generalize hfs : ([.nilFunc, .func (.func 72) (List.toArray []) (List.toArray []), .func (.func 73) (List.toArray []) (List.toArray []), .func (.func 74) (List.toArray []) (List.toArray []), .func (.func 75) (List.toArray []) (List.toArray []), .func (.func 76) (List.toArray []) (List.toArray []), .func (.func 77) (List.toArray []) (List.toArray [])] : List Value) = fs
  have hh3 := hh.beside n3 (g := .row fs) (m := true)
  have hle3 := Heap.le_put (hh.le.none n3) (g := .row fs) (m := true)
  have hb13 := hle3 _ _ hb1
  have hb3 : ((H0.put b1 (.row (T_api_Value.c x))).put b3 (.row fs)) b3 = some (true, .row fs) := Heap.put_same ..
  generalize H0.put b1 (.row (T_api_Value.c x)) = B1 at *
  generalize B1.put b3 (.row fs) = B at *
  have hleB := hle1.trans hle3
  refine bxK (hh3.le _ _ hb13) ?_
  rw [hv.kind]
  have hkc : v.k = ((UInt8.ofNat v.k.toNat).toNat : Int) := by rw [UInt8.toNat_ofNat']; omega
  refine pen_put_lit hh3 (cs := [UInt8.ofNat v.k.toNat]) (by simp only [bytesV, List.map_cons, List.map_nil]; rw [← hkc]) rfl (by simp; omega) fun H4 h4 => ?_
  rw [map_xor_zero] at h4
  refine ⟨B, h4.le, bxK hb13 ?_⟩
  rw [hv.kind]
  refine ⟨by omega, by omega, ?_⟩
  have hvB := hv.le hleB
  have hfin : ∀ {e : Str} {H2 : Heap}, PenF B H2 b (bs ++ [UInt8.ofNat v.k.toNat] ++ e) 0 → encV v = UInt8.ofNat v.k.toNat :: e → Heap.le B H2 ∧ K H2 := fun {e H2} h2 he => ⟨h2.le, k H2 (by rw [he]; simpa using h2.down hleB)⟩
  have hev := encV_eq v
  have hrd : ∀ {o : Nat} {u : Value}, fs[o]? = some u → rd B ((b3, 0).1, (b3, 0).2 + (o : Int).toNat * 1) = some u := fun {o u} hu => by
    rw [rd_row hb3]; simpa using hu
  have hl1 : (bs ++ [UInt8.ofNat v.k.toNat]).length = bs.length + 1 := by simp
  rcases hk6 with h1 | h1 | h1 | h1 | h1 | h1
  · rw [h1] at hev ⊢
    refine ⟨_, hrd (o := 1) (by rw [← hfs]; rfl), bxV hb13 ?_⟩
    have hc : c_code_pen_truth C (some (b, 0)) x (fun H24 => Heap.le B H24 ∧ K H24) H4 := pen_truth_ok h4 hvB (okN_bool hok h1) (by omega) fun H2 h2 => hfin h2 (by rw [hev, h1]; rfl)
    exact ⟨_, [], [], rfl, ok_code_pen_truth, hc⟩
  · rw [h1] at hev ⊢
    refine ⟨_, hrd (o := 2) (by rw [← hfs]; rfl), bxV hb13 ?_⟩
    have hc : c_code_pen_whole C (some (b, 0)) x (fun H24 => Heap.le B H24 ∧ K H24) H4 := pen_whole_ok h4 hvB hB (by omega) fun H2 h2 => hfin h2 (by rw [hev, h1]; rfl)
    exact ⟨_, [], [], rfl, ok_code_pen_whole, hc⟩
  · rw [h1] at hev ⊢
    refine ⟨_, hrd (o := 3) (by rw [← hfs]; rfl), bxV hb13 ?_⟩
    have hc : c_code_pen_big C (some (b, 0)) x (fun H24 => Heap.le B H24 ∧ K H24) H4 := pen_big_ok h4 hvB (by omega) (by omega) fun H2 h2 => hfin h2 (by rw [hev, h1]; rfl)
    exact ⟨_, [], [], rfl, ok_code_pen_big, hc⟩
  · rw [h1] at hev ⊢
    refine ⟨_, hrd (o := 4) (by rw [← hfs]; rfl), bxV hb13 ?_⟩
    have hc : c_code_pen_words C (some (b, 0)) x (fun H24 => Heap.le B H24 ∧ K H24) H4 := pen_words_ok h4 hvB (by omega) fun H2 h2 => hfin h2 (by rw [hev, h1]; rfl)
    exact ⟨_, [], [], rfl, ok_code_pen_words, hc⟩
  · rw [h1] at hev ⊢
    refine ⟨_, hrd (o := 5) (by rw [← hfs]; rfl), bxV hb13 ?_⟩
    have hc : c_code_pen_list C (some (b, 0)) x (fun H24 => Heap.le B H24 ∧ K H24) H4 := pen_list_ok ih h4 hvB hB hfl hs (by omega) fun H2 h2 => hfin h2 (by rw [hev, h1]; rfl)
    exact ⟨_, [], [], rfl, ok_code_pen_list, hc⟩
  · rw [h1] at hev ⊢
    refine ⟨_, hrd (o := 6) (by rw [← hfs]; rfl), bxV hb13 ?_⟩
    have hc : c_code_pen_cons C (some (b, 0)) x (fun H24 => Heap.le B H24 ∧ K H24) H4 := pen_cons_ok ih h4 hvB hB hfl hs (by omega) fun H2 h2 => hfin h2 (by rw [hev, h1]; rfl)
    exact ⟨_, [], [], rfl, ok_code_pen_cons, hc⟩

theorem code_Value_ok {s : Sl} {a : Str} {v : V} {x : TV} {K : Sl → Heap → Prop} (hr : rdsl H s (bytesV a)) (hl : s.len = a.length) (hv : VIs H v x) (hB : VB v) (hs : mayV v = true → vtot v < 2147483648) (hm : a.length ≤ 1000000000000)
    (k : ∀ r H2, OwnF H H2 1 r (bytesV (a ++ if mayV v then encV v else [])) → K r H2) : c_code_Value C s x K H := by
  apply ad_code_Value
  unfold sh_code_Value
  intro b1 n1
  have hb1 : (H.put b1 (.row (T_api_Value.c x))) b1 = some (true, .row (T_api_Value.c x)) := Heap.put_same ..
  have hle1 := Heap.le_put n1 (g := .row (T_api_Value.c x)) (m := true)
  generalize H.put b1 (.row (T_api_Value.c x)) = H1 at *
  refine code_behind_ok (rdsl_le hle1 hr) hl (by omega) fun b H2 h2 => ?_
  refine ⟨fun _ H3 => PenF H1 H3 b (a ++ if mayV v then encV v else []) 0, ?_, ?_⟩
  · refine bxV (h2.le _ _ hb1) ?_
    refine value_Check_ok (hv.le (hle1.trans h2.le)) hB ?_
    rw [mayV_dec]
    refine ift.of (fun h => ?_) (fun h => ?_)
    · rw [if_pos h]
      exact bxV (h2.le _ _ hb1) (pen_value_ok v h2 (hv.le hle1) hB (mayV_form h) (hs h) (by have := hs h; omega) fun H3 h3 => h3)
    · rw [if_neg (by rw [h]; decide), List.append_nil]; exact h2
  · rintro _ H3 h3
    obtain ⟨r, h4, h5⟩ := h3.take
    exact ⟨_, rfl, r, h4, k r H3 (h5.down hle1)⟩

/-! the law's own -/
theorem parts_ok {v : V} {x : TV} {H : Heap} {K : Int → Heap → Prop} (hv : VIs H v x) (hB : VB v) (k : ∀ r, K r H) : c_law03_parts C x K H := by
  refine V.rec_ (P := fun v => ∀ {x H} {K : Int → Heap → Prop}, VIs H v x → VB v → (∀ r, K r H) → c_law03_parts C x K H) (fun v ih => ?_) v hv hB k
  clear hv hB k
  intro x H K hv hB k
  apply c_law03_parts.gh
  apply ad_law03_parts
  unfold sh_law03_parts
  intro b1 n1
  have hb1 : (H.put b1 (.row (T_api_Value.c x))) b1 = some (true, .row (T_api_Value.c x)) := Heap.put_same ..
  have hle1 := Heap.le_put n1 (g := .row (T_api_Value.c x)) (m := true)
  have hr := hv.row
  have hl := hr.len
  have hbl := hB.l
  generalize H.put b1 (.row (T_api_Value.c x)) = H1 at *
  refine bxS hb1 ?_
  refine ⟨fun y H' => ∃ i : Nat, y.2 = (i : Int) ∧ i ≤ v.l.length ∧ H1 = H', fun y _ => v.l.length - y.2.toNat, ⟨0, rfl, Nat.zero_le _, rfl⟩, ?_⟩
  rintro ⟨y1, y2⟩ _ ⟨i, hy, hi, rfl⟩
  dsimp only at hy
  subst hy
  refine bxL hb1 ?_
  rw [hl]
  refine ift.of (fun h => ?_) (fun h => ⟨H, Gh.le hle1, k _⟩)
  simp only [Bool.and_eq_true, decide_eq_true_eq] at h
  have hlt : i < v.l.length := by omega
  refine bxL hb1 ?_
  refine hr.ld hle1 rfl hlt fun z hz => ?_
  refine ih _ (List.getElem_mem hlt) (hz.le hle1) (hB.at hlt) fun r => ?_
  dsimp only
  rw [w_i64 (x := (i : Int) + 1) (by omega) (by omega)]
  exact ⟨⟨i + 1, by omega, by omega, rfl⟩, by first | omega | (dsimp only; omega)⟩
theorem wide_ok {v : V} {x : TV} {H : Heap} {K : Bool → Heap → Prop} (hv : VIs H v x) (hB : VB v) (k : ∀ b, K b H) : c_law03_wide C x K H := by
  apply c_law03_wide.gh
  apply ad_law03_wide
  unfold sh_law03_wide
  intro b1 n1
  have hle1 := Heap.le_put n1 (g := .row (T_api_Value.c x)) (m := true)
  exact bxV (Heap.put_same ..) (parts_ok (hv.le hle1) hB fun r => ⟨H, Gh.le hle1, k _⟩)

theorem put_ok {s t : Sl} {a c : Str} {K : Bool → Heap → Prop} (hs : OwnF H0 H 1 s (bytesV a)) (ht : rdsl H t (bytesV c)) (htl : t.len = c.length) (hm : a.length ≤ 140737488355328) (k : ∀ H2, H0.le H2 → K (decide (a = c)) H2) : c_law03_put C s t K H := by
  apply ad_law03_put
  unfold sh_law03_put
  have hl := hs.lenB
  refine b2s_of hs.own.rdsl hl (b2s_of ht htl ?_)
  have e : (a == c) = decide (a = c) := by rw [Bool.eq_iff_iff]; simp
  rw [e, hl]
  by_cases h0 : a.length = 0
  · refine ⟨fun x H' => x = 0 ∧ H0.le H', fun _ _ => 0, ⟨rfl, hs.le⟩, ?_⟩
    rintro x H' ⟨rfl, hle⟩
    exact ift_neg (by rw [decide_eq_false_iff_not]; omega) (k H' hle)
  obtain ⟨hle, ⟨ho1, ho2, ho3, ho4⟩, hf⟩ := hs
  rcases ho4 with ⟨hp, hc⟩ | ⟨b, sp, hp, hb, hcl⟩
  · omega
  refine ⟨fun x H' => ∃ (i : Nat) (d : Str), x = (i : Int) ∧ i ≤ a.length ∧ d.length = a.length ∧ H' = H.put b (.row (bytesV d ++ sp)), fun x _ => a.length - x.toNat, ⟨0, a, rfl, Nat.zero_le _, rfl, (Heap.put_id hb).symm⟩, ?_⟩
  rintro x H' ⟨i, d, rfl, hi, hd, rfl⟩
  refine ift.of (fun h => ?_) (fun h => ?_)
  · have hlt : i < d.length := by have := of_decide_eq_true h; omega
    have hgd := getD_some hlt
    generalize d.getD i 0 = q at *
    have hgb : (bytesV d ++ sp)[i]? = some (.int .u8 (q.toNat : Int)) := by rw [List.getElem?_append_left (by simp [bytesV]; omega), bytesV_get, hgd]; rfl
    refine ⟨(b, 0), hp, ho2, by omega, by omega, (q.toNat : Int), ?_, (b, 0), hp, ho2, by omega, by omega, _, Heap.put_same .., by simp [bytesV]; omega, ?_⟩
    · rw [rd_same]; simpa using hgb
    rw [w_i64 (by omega) (by omega), Heap.put_put]
    refine ⟨⟨i + 1, d.set i (q ^^^ 85), by omega, by omega, by simp [hd], ?_⟩, by first | omega | (dsimp only; omega)⟩
    congr 2
    have e85 : bXor .u8 (q.toNat : Int) 85 = ((q ^^^ 85).toNat : Int) := xor_u8 q 85
    rw [e85]
    have : (b, 0).2 + (i : Int).toNat * 1 = i := by simp
    rw [this, List.set_append_left _ _ (by simp [bytesV]; omega)]
    congr 1
    simp [bytesV, List.map_set]
  · refine k _ fun y e hy => ?_
    have hyb : y ≠ b := fun e' => by subst e'; have := hf _ hp; rw [hy] at this; cases this
    rw [Heap.put_ne _ _ _ hyb]; exact hle _ _ hy

theorem CodePuts_ok {p : Sl} {a : Str} {n c : Int} {s : Str} {is : Bool} {v : V} {x : TV} {H : Heap} {K : Bool → Heap → Prop} (hr : rdsl H p (bytesV a)) (hl : p.len = a.length) (ha : a.length ≤ 1000000000) (h0 : -9223372036854775808 ≤ n) (h1 : n ≤ 9223372036854775807) (hs : s.length ≤ 1000000000)
    (hv : VIs H v x) (hB : VB v) (ht : vtot v < 2147483648) (hz : vsize v ≤ 4611686018427387904) (k : ∀ H2, K true H2) : c_law03_CodePuts C p n c s is x K H := by
  apply ad_law03_CodePuts
  unfold sh_law03_CodePuts
  intro b1 n1
  have hle1 := Heap.le_put n1 (g := .row (T_api_Value.c x)) (m := true)
  have hb1 : (H.put b1 (.row (T_api_Value.c x))) b1 = some (true, .row (T_api_Value.c x)) := Heap.put_same ..
  generalize H.put b1 (.row (T_api_Value.c x)) = H1 at *
  refine bxV hb1 (wide_ok (hv.le hle1) hB fun bw => ?_)
  refine ift.of (fun h => works_ok fun H2 _ => k H2) (fun h => ?_)
  intro b2 n2
  refine apS_bytes (a := []) (ownF_empty n2) (rdsl_le (hle1.trans (Heap.le_put n2)) hr) hl (by simp; omega) fun r H2 h2 hrl => ?_
  rw [List.nil_append] at h2
  have hH2 := hle1.trans h2.le
  have hr2 := rdsl_le hH2 hr
  have hv2 := hv.le hH2
  have hb2 := h2.le _ _ hb1
  have hrr := h2.own.rdsl
  have hrl := h2.lenB
  have hel := encV_len v hB ht
  have hle0 : (if mayV v then encV v else []).length ≤ 2147483648 := by
    split
    · omega
    · simp
  refine ⟨fun x' H' => (∃ i : Nat, x' = (i : Int)) ∧ H2.le H', fun x' _ => 2 - x'.toNat, ⟨⟨0, rfl⟩, Heap.le.refl _⟩, ?_⟩
  rintro x' H3 ⟨⟨i, rfl⟩, hle⟩
  refine ift.of (fun h => ?_) (fun h => ?_)
  · have hi : i < 2 := by have := of_decide_eq_true h; omega
    refine ⟨fun b H' => b = false ∧ H2.le H', ?_, ?_⟩
    rotate_left
    · rintro _ H' ⟨rfl, hle'⟩
      refine ift_neg rfl ?_
      rw [w_i64 (by omega) (by omega)]
      exact ⟨⟨⟨i + 1, by omega⟩, hle'⟩, by first | omega | (dsimp only; omega)⟩
    refine ⟨H2, hle, ?_⟩
    refine code_Num_ok (rdsl_le hle hr2) hl h0 h1 (by omega) fun r1 G1 g1 => ?_
    refine ⟨hle.trans g1.le, ?_⟩
    refine rNum_ok (rdsl_le (hle.trans g1.le) hrr) hrl h0 h1 (by omega) fun r2 G2 g2 => ?_
    refine ⟨(hle.trans g1.le).trans g2.le, ?_⟩
    have hnl := (Nm_len h0 h1).2
    refine put_ok (g1.up g2.le) g2.own.rdsl g2.lenB (by rw [List.length_append]; omega) fun G3 hG3 => ?_
    have hl3 := hle.trans hG3
    refine ⟨hl3, ift_neg (by simp) ?_⟩
    refine code_Count_ok (rdsl_le hl3 hr2) hl (by omega) fun r1 G4 g4 => ?_
    refine ⟨hl3.trans g4.le, ?_⟩
    refine rCount_ok (rdsl_le (hl3.trans g4.le) hrr) hrl (by omega) fun r2 G5 g5 => ?_
    refine ⟨(hl3.trans g4.le).trans g5.le, ?_⟩
    have hcl : (Ct c).length ≤ 10 := by
      unfold Ct
      split
      · rename_i hc
        have := kl_le4 (n := c.toNat) (by omega)
        rw [numB_len]; omega
      · simp
    refine put_ok (g4.up g5.le) g5.own.rdsl g5.lenB (by rw [List.length_append]; omega) fun G6 hG6 => ?_
    have hl6 := hl3.trans hG6
    refine ⟨hl6, ift_neg (by simp) ?_⟩
    refine code_Str_ok (rdsl_le hl6 hr2) hl (by omega) fun r1 G7 g7 => ?_
    refine ⟨hl6.trans g7.le, ?_⟩
    refine rStr_ok (rdsl_le (hl6.trans g7.le) hrr) hrl (by omega) fun r2 G8 g8 => ?_
    refine ⟨(hl6.trans g7.le).trans g8.le, ?_⟩
    have htl := Tx_len s
    have hzc := zc_le s
    refine put_ok (g7.up g8.le) g8.own.rdsl g8.lenB (by rw [List.length_append]; omega) fun G9 hG9 => ?_
    have hl9 := hl6.trans hG9
    refine ⟨hl9, ift_neg (by simp) ?_⟩
    refine code_Flag_ok (rdsl_le hl9 hr2) hl (by omega) fun r1 G10 g10 => ?_
    refine ⟨hl9.trans g10.le, ?_⟩
    refine rFlag_ok (rdsl_le (hl9.trans g10.le) hrr) hrl (by omega) fun r2 G11 g11 => ?_
    refine ⟨(hl9.trans g10.le).trans g11.le, ?_⟩
    refine put_ok (g10.up g11.le) g11.own.rdsl g11.lenB (by rw [List.length_append]; simp; omega) fun G12 hG12 => ?_
    have hl12 := hl9.trans hG12
    refine ⟨hl12, ift_neg (by simp) ?_⟩
    refine bxV hb2 (bxV hb2 ?_)
    refine code_Value_ok (rdsl_le hl12 hr2) hl (hv2.le hl12) hB (fun _ => ht) (by omega) fun r1 G13 g13 => ?_
    refine ⟨hl12.trans g13.le, ?_⟩
    refine rValue_ok (rdsl_le (hl12.trans g13.le) hrr) hrl (hv2.le (hl12.trans g13.le)) hB ht hz (by omega) fun r2 G14 g14 => ?_
    refine ⟨(hl12.trans g13.le).trans g14.le, ?_⟩
    refine put_ok (g13.up g14.le) g14.own.rdsl g14.lenB (by rw [List.length_append]; omega) fun G15 hG15 => ?_
    exact ⟨hl12.trans hG15, by simp, hl12.trans hG15⟩
  · refine b2s_of (rdsl_le hle hr2) hl (b2s_of (rdsl_le hle hrr) hrl ?_)
    refine ⟨fun b H' => b = true, ift_pos (by simp) (works_ok fun _ _ => rfl), ?_⟩
    rintro _ H' rfl
    exact k _
end
end Sx
