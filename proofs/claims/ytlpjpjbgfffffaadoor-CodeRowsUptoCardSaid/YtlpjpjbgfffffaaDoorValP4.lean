/-
  Which values may be: the program's own.
-/
import Derived.Test.YtlpjpjbgfffffaaDoorValP3
set_option linter.unusedVariables false
set_option linter.unusedSimpArgs false
set_option maxRecDepth 10000
namespace Sx
open Go Go.Proofs

theorem names_cut (s : Str) : namesS s = (match cutD s with | some (a, b) => nameS a && nameS b | none => nameS s && !decide (s = trueS) && !decide (s = falseS)) := by
  unfold namesS
  by_cases ht : s = trueS
  · subst ht; rfl
  by_cases hf : s = falseS
  · subst hf; rfl
  rw [if_neg (fun h => h.elim ht hf)]
  cases hc : cutD s with
  | none => simp [ht, hf]
  | some p => rfl

section
variable {C : Ctx} {H : Heap}

theorem look_ok {v : V} {x : TV} {H : Heap} {K : Bool → Bool → Heap → Prop} (hv : VIs H v x) (hB : VB v) (k : ∀ g, (formV v = true → g = fitsV v) → K (formV v) g H) : c_value_item_look C x K H := by
  refine V.rec_ (P := fun v => ∀ {x H} {K : Bool → Bool → Heap → Prop}, VIs H v x → VB v → (∀ g, (formV v = true → g = fitsV v) → K (formV v) g H) → c_value_item_look C x K H) (fun v ih => ?_) v hv hB k
  clear hv hB k
  intro x H K hv hB k
  apply c_value_item_look.gh
  apply ad_value_item_look
  unfold sh_value_item_look
  intro b1 n1
  have hr := hv.row
  have hl := hr.len
  have hbl := hB.l
  have hbs := hB.s
  have hk := hv.kind
  have hn := hv.num
  have ht := hv.txt
  have hb1 : (H.put b1 (.row (T_api_Value.c x))) b1 = some (true, .row (T_api_Value.c x)) := Heap.put_same ..
  have hle1 := Heap.le_put n1 (g := .row (T_api_Value.c x)) (m := true)
  generalize H.put b1 (.row (T_api_Value.c x)) = H1 at *
  refine bxN hb1 ?_
  refine ⟨fun b H' => H1 = H', ?_, ?_⟩
  · exact ift.of (fun _ => bxS hb1 rfl) (fun _ => rfl)
  rintro _ _ rfl
  refine ⟨fun b H' => H1 = H', ?_, ?_⟩
  · exact ift.of (fun _ => bxL hb1 rfl) (fun _ => rfl)
  rintro _ _ rfl
  refine ⟨fun b H' => H1 = H' ∧ b.1 = okN v.k v.n v.s v.l.length ∧ (b.1 = true → b.2 = fitN v.k v.s v.l.length), ?_, ?_⟩
  rotate_left
  · rintro ⟨o, g⟩ _ ⟨rfl, ho, hg⟩
    dsimp only at ho hg ⊢
    subst ho
    refine bxL hb1 ?_
    refine ⟨fun y H' => ∃ i : Nat, y.2.2 = (i : Int) ∧ i ≤ v.l.length ∧ H.le H' ∧ y.1 = (okN v.k v.n v.s v.l.length && formVs (v.l.take i)) ∧ (y.1 = true → y.2.1 = (fitN v.k v.s v.l.length && fitsVs (v.l.take i))), fun y _ => v.l.length - y.2.2.toNat, ⟨0, rfl, Nat.zero_le _, hle1, by simp [formVs], fun h => by simp [fitsVs, hg h]⟩, ?_⟩
    rintro ⟨f, g', y⟩ H2 ⟨i, hy, hi, hle, h1, h2⟩
    dsimp only at hy h1 h2
    subst hy
    dsimp only
    rw [hl]
    refine ift.of (fun h => ?_) (fun h => ?_)
    · have hlt : i < v.l.length := by have := of_decide_eq_true h; omega
      have hmem := List.getElem_mem hlt
      refine hr.ld hle rfl hlt fun z hz => ?_
      intro b20 n20
      refine ⟨_, Heap.put_same .., by simp [T_api_Value.c], ?_⟩
      rw [Heap.put_put]
      have esp : splice (T_api_Value.c T_api_Value.zero) (b20, 0).2 (T_api_Value.c z) = T_api_Value.c z := rfl
      rw [esp]
      have hle2 := hle.trans (Heap.le_put n20 (g := .row (T_api_Value.c z)) (m := true))
      refine bxV (Heap.put_same ..) ?_
      refine ih _ hmem (hz.le hle2) (hB.at hlt) fun q hq => ?_
      rw [w_i64 (by omega) (by omega)]
      refine ⟨⟨i + 1, by omega, by omega, hle2, ?_, fun hh => ?_⟩, by first | omega | (dsimp only; omega)⟩
      · rw [h1, formVs_take hlt, Bool.and_assoc]
      · rw [Bool.and_eq_true] at hh
        rw [h2 hh.1, fitsVs_take hlt, hq hh.2, Bool.and_assoc]
    · have hie : i = v.l.length := by have := of_decide_eq_false h; omega
      subst hie
      rw [List.take_length] at h1 h2
      rw [← formV_eq] at h1
      rw [← fitsV_eq] at h2
      refine ⟨H, Gh.le hle, ?_⟩
      rw [h1] at h2 ⊢
      exact k g' h2
  refine bxK hb1 ?_
  rw [hk]
  refine ift.of (fun h => ?_) (fun h => ?_)
  · have h : v.k = 1 := by simpa using h
    have eo : okN v.k v.n v.s v.l.length = ((v.n == 0 || v.n == 1) && v.s.isEmpty && decide (v.l.length = 0)) := by rw [h]; rfl
    have ef : fitN v.k v.s v.l.length = true := by rw [h]; rfl
    rw [eo, ef]
    refine bxN hb1 ?_
    refine ⟨fun b H' => H1 = H' ∧ b = (v.n == 0 || v.n == 1), ?_, ?_⟩
    · rw [hn]
      refine ift.of (fun h => ⟨rfl, by rw [h]; rfl⟩) (fun h => ?_)
      refine bxN hb1 ⟨rfl, ?_⟩
      rw [h, hn]; rfl
    rintro _ _ ⟨rfl, rfl⟩
    refine ⟨fun b H' => H1 = H' ∧ b = ((v.n == 0 || v.n == 1) && v.s.isEmpty), ?_, ?_⟩
    · refine ift.of (fun h => ?_) (fun h => ⟨rfl, by rw [h]; rfl⟩)
      refine bxS hb1 ⟨rfl, ?_⟩
      rw [h, ht, sEmpty]; rfl
    rintro _ _ ⟨rfl, rfl⟩
    refine ⟨fun b H' => H1 = H' ∧ b = ((v.n == 0 || v.n == 1) && v.s.isEmpty && decide (v.l.length = 0)), ?_, ?_⟩
    · refine ift.of (fun h => ?_) (fun h => ⟨rfl, by rw [h]; rfl⟩)
      refine bxL hb1 ⟨rfl, ?_⟩
      rw [h]; exact lenZ hl 0
    rintro _ _ ⟨rfl, rfl⟩
    exact ⟨rfl, rfl, fun _ => rfl⟩
  have g1 : v.k ≠ 1 := by simpa using h
  refine ift.of (fun h => ?_) (fun h => ?_)
  · have h : v.k = 2 := by simpa using h
    have eo : okN v.k v.n v.s v.l.length = (v.s.isEmpty && decide (v.l.length = 0)) := by rw [h]; rfl
    have ef : fitN v.k v.s v.l.length = true := by rw [h]; rfl
    rw [eo, ef]
    refine bxS hb1 ?_
    refine ⟨fun b H' => H1 = H' ∧ b = (v.s.isEmpty && decide (v.l.length = 0)), ?_, ?_⟩
    · rw [ht, sEmpty]
      refine ift.of (fun h => ?_) (fun h => ⟨rfl, by rw [h]; rfl⟩)
      refine bxL hb1 ⟨rfl, ?_⟩
      rw [h]; exact lenZ hl 0
    rintro _ _ ⟨rfl, rfl⟩
    exact ⟨rfl, rfl, fun _ => rfl⟩
  have g2 : v.k ≠ 2 := by simpa using h
  refine ift.of (fun h => ?_) (fun h => ?_)
  · have h : v.k = 3 := by simpa using h
    have eo : okN v.k v.n v.s v.l.length = (numS v.s && v.n == 0 && decide (v.l.length = 0)) := by rw [h]; rfl
    have ef : fitN v.k v.s v.l.length = decide (digits v.s ≤ 200) := by rw [h]; rfl
    rw [eo, ef]
    refine bxS hb1 ?_
    rw [ht]
    refine value_number_ok hbs ?_
    refine ⟨fun b H' => H1 = H' ∧ b = (numS v.s && v.n == 0), ?_, ?_⟩
    · refine ift.of (fun h => ?_) (fun h => ⟨rfl, by rw [h]; rfl⟩)
      refine bxN hb1 ⟨rfl, ?_⟩
      rw [h, hn]; rfl
    rintro _ _ ⟨rfl, rfl⟩
    refine ⟨fun b H' => H1 = H' ∧ b = (numS v.s && v.n == 0 && decide (v.l.length = 0)), ?_, ?_⟩
    · refine ift.of (fun h => ?_) (fun h => ⟨rfl, by rw [h]; rfl⟩)
      refine bxL hb1 ⟨rfl, ?_⟩
      rw [h]; exact lenZ hl 0
    rintro _ _ ⟨rfl, rfl⟩
    refine ⟨rfl, rfl, fun hh => ?_⟩
    dsimp only at hh ⊢
    simp only [Bool.and_eq_true] at hh
    rw [hh.1.1, if_pos rfl, decide_eq_decide]; omega
  have g3 : v.k ≠ 3 := by simpa using h
  refine ift.of (fun h => ?_) (fun h => ?_)
  · have h : v.k = 4 := by simpa using h
    have eo : okN v.k v.n v.s v.l.length = (v.n == 0 && decide (v.l.length = 0)) := by rw [h]; rfl
    have ef : fitN v.k v.s v.l.length = decide (v.s.length ≤ 4096) := by rw [h]; rfl
    rw [eo, ef]
    have ed : decide ((v.s.length : Int) ≤ 4096) = decide (v.s.length ≤ 4096) := by rw [decide_eq_decide]; omega
    refine ⟨fun b H' => H1 = H' ∧ b = ((v.n == 0 && decide (v.l.length = 0)), decide (v.s.length ≤ 4096)), ?_, ?_⟩
    · refine ⟨H1, Heap.le.refl _, bxN hb1 (bxS hb1 ?_)⟩
      rw [hn, ht, ed]
      refine ift.of (fun h => ?_) (fun h => ⟨rfl, by rw [h]; rfl⟩)
      refine bxL hb1 ⟨rfl, ?_⟩
      rw [h, show ((x.L.len : Int) == 0) = decide (v.l.length = 0) from lenZ hl 0]; rfl
    rintro _ _ ⟨rfl, rfl⟩
    exact ⟨rfl, rfl, fun _ => rfl⟩
  have g4 : v.k ≠ 4 := by simpa using h
  refine ift.of (fun h => ?_) (fun h => ?_)
  · have h : v.k = 5 := by simpa using h
    have eo : okN v.k v.n v.s v.l.length = (v.n == 0 && v.s.isEmpty && decide (v.l.length ≠ 1)) := by rw [h]; rfl
    have ef : fitN v.k v.s v.l.length = decide (v.l.length ≤ 16) := by rw [h]; rfl
    rw [eo, ef]
    have ed : decide ((x.L.len : Int) ≤ 16) = decide (v.l.length ≤ 16) := by rw [decide_eq_decide]; omega
    refine ⟨fun b H' => H1 = H' ∧ b = ((v.n == 0 && v.s.isEmpty && decide (v.l.length ≠ 1)), decide (v.l.length ≤ 16)), ?_, ?_⟩
    · refine ⟨H1, Heap.le.refl _, bxN hb1 (bxL hb1 ?_)⟩
      rw [hn, ed]
      refine ift.of (fun h => ?_) (fun h => ⟨rfl, by rw [h]; rfl⟩)
      refine bxS hb1 ?_
      rw [ht, sEmpty]
      refine ift.of (fun h2 => ?_) (fun h2 => ⟨rfl, by rw [h2]; simp⟩)
      refine bxL hb1 ⟨rfl, ?_⟩
      rw [h, h2, bne, show ((x.L.len : Int) == 1) = decide (v.l.length = 1) from lenZ hl 1, decide_not]; rfl
    rintro _ _ ⟨rfl, rfl⟩
    exact ⟨rfl, rfl, fun _ => rfl⟩
  have g5 : v.k ≠ 5 := by simpa using h
  refine ift.of (fun h => ?_) (fun h => ?_)
  · have h : v.k = 6 := by simpa using h
    have eo : okN v.k v.n v.s v.l.length = (v.n == 0 && namesS v.s) := by rw [h]; rfl
    have ef : fitN v.k v.s v.l.length = decide (v.l.length ≤ 8) := by rw [h]; rfl
    rw [eo, ef]
    have ed : decide ((x.L.len : Int) ≤ 8) = decide (v.l.length ≤ 8) := by rw [decide_eq_decide]; omega
    refine bxS hb1 ?_
    rw [ht]
    refine cutDot_ok hbs ?_
    have key : ∀ (a b : Str) (two : Bool), a.length ≤ 140737488355328 → b.length ≤ 140737488355328 → namesS v.s = (if two then nameS a && nameS b else nameS a && !decide (v.s = trueS) && !decide (v.s = falseS)) →
        jn (α := Bool × Bool) (fun x118 H119 => H1 = H119 ∧ x118.1 = (v.n == 0 && namesS v.s) ∧ (x118.1 = true → x118.2 = decide (v.l.length ≤ 8)))
          (fun J117 => dr H1 fun Hs121 =>
          ldI Hs121 .i64 ((b1, 0).1, (b1, 0).2 + 1) fun x123 =>
          ldL Hs121 ((b1, 0).1, (b1, 0).2 + 3) fun x125 =>
          ift ((x123 : Int) == 0)
          (c_value_name C a (fun r129 H130 =>
          Heap.le Hs121 H130 ∧
          ift r129
          (ift two
          (c_value_name C b (fun r134 H135 =>
          Heap.le Hs121 H135 ∧
          ift r134
          (J117 (true, (decide (((Sl.len x125 : Int) : Int) ≤ 8))) H135)
          (ift (!two)
          (ldS Hs121 ((b1, 0).1, (b1, 0).2 + 2) fun x138 =>
          ift (!(x138 == ([116, 114, 117, 101] : Str)))
          (ldS Hs121 ((b1, 0).1, (b1, 0).2 + 2) fun x141 =>
          J117 ((!(x141 == ([102, 97, 108, 115, 101] : Str))), (decide (((Sl.len x125 : Int) : Int) ≤ 8))) H135)
          (J117 (false, (decide (((Sl.len x125 : Int) : Int) ≤ 8))) H135))
          (J117 (false, (decide (((Sl.len x125 : Int) : Int) ≤ 8))) H135))) H130)
          (ift (!two)
          (ldS Hs121 ((b1, 0).1, (b1, 0).2 + 2) fun x144 =>
          ift (!(x144 == ([116, 114, 117, 101] : Str)))
          (ldS Hs121 ((b1, 0).1, (b1, 0).2 + 2) fun x147 =>
          J117 ((!(x147 == ([102, 97, 108, 115, 101] : Str))), (decide (((Sl.len x125 : Int) : Int) ≤ 8))) H130)
          (J117 (false, (decide (((Sl.len x125 : Int) : Int) ≤ 8))) H130))
          (J117 (false, (decide (((Sl.len x125 : Int) : Int) ≤ 8))) H130)))
          (J117 (false, (decide (((Sl.len x125 : Int) : Int) ≤ 8))) H130)) H1)
          (J117 (false, (decide (((Sl.len x125 : Int) : Int) ≤ 8))) H1)) := by
      intro a b two ha hb hns
      refine ⟨fun y H' => H1 = H' ∧ y = ((v.n == 0 && namesS v.s), decide (v.l.length ≤ 8)), ?_, ?_⟩
      · refine ⟨H1, Heap.le.refl _, bxN hb1 (bxL hb1 ?_)⟩
        rw [hn, ed]
        refine ift.of (fun h => ?_) (fun h => ⟨rfl, by rw [h]; rfl⟩)
        refine value_name_ok ha ⟨Heap.le.refl _, ?_⟩
        rw [h, hns]
        refine ift.of (fun h2 => ?_) (fun h2 => ⟨rfl, by rw [h2]; cases two <;> rfl⟩)
        rw [h2]
        have eq : ∀ t : Str, (v.s == t) = decide (v.s = t) := fun t => by rw [Bool.eq_iff_iff]; simp
        cases two with
        | true =>
          refine ift_pos rfl ?_
          refine value_name_ok hb ⟨Heap.le.refl _, ?_⟩
          exact ift.of (fun h3 => ⟨rfl, by rw [h3]; rfl⟩) (fun h3 => ift_neg rfl ⟨rfl, by rw [h3]; rfl⟩)
        | false =>
          refine ift_neg rfl (ift_pos rfl ?_)
          refine bxS hb1 ?_
          rw [ht, show (v.s == ([116, 114, 117, 101] : Str)) = decide (v.s = trueS) from eq _]
          refine ift.of (fun h3 => ?_) (fun h3 => ⟨rfl, ?_⟩)
          · refine bxS hb1 ⟨rfl, ?_⟩
            rw [ht, show (v.s == ([102, 97, 108, 115, 101] : Str)) = decide (v.s = falseS) from eq _, h3]; rfl
          · rw [h3]; rfl
      · rintro _ _ ⟨rfl, rfl⟩
        exact ⟨rfl, rfl, fun _ => rfl⟩
    have hc := names_cut v.s
    cases hcd : cutD v.s with
    | none =>
      rw [hcd] at hc
      exact key _ _ _ hbs (by simp) hc
    | some p =>
      obtain ⟨a, b⟩ := p
      rw [hcd] at hc
      have hlen : a.length ≤ v.s.length ∧ b.length ≤ v.s.length := by
        by_cases hm : (46 : UInt8) ∈ v.s
        · obtain ⟨a', b', e1, e2⟩ := cutD_mem _ hm
          have := cutD_at a' b' e2
          rw [← e1, hcd] at this
          injection this with this; injection this with h1 h2
          subst h1; subst h2
          rw [e1]; simp; omega
        · rw [cutD_no _ hm] at hcd; cases hcd
      exact key _ _ _ (by omega) (by omega) hc
  have g6 : v.k ≠ 6 := by simpa using h
  have eo : okN v.k v.n v.s v.l.length = false := by unfold okN; rw [if_neg g1, if_neg g2, if_neg g3, if_neg g4, if_neg g5, if_neg g6]
  rw [eo]
  exact ⟨rfl, rfl, fun hh => by cases hh⟩

theorem value_Check_ok {v : V} {x : TV} {H : Heap} {K : Int → Heap → Prop} (hv : VIs H v x) (hB : VB v) (k : K (checkV v) H) : c_value_Check C x K H := by
  apply c_value_Check.gh
  apply ad_value_Check
  unfold sh_value_Check
  intro b1 n1
  have hb1 : (H.put b1 (.row (T_api_Value.c x))) b1 = some (true, .row (T_api_Value.c x)) := Heap.put_same ..
  have hle1 := Heap.le_put n1 (g := .row (T_api_Value.c x)) (m := true)
  generalize H.put b1 (.row (T_api_Value.c x)) = H1 at *
  unfold checkV at k
  refine bxV hb1 (value_depth_ok (m := 65) (hv.le hle1) hB (by omega) fun r h0 h1 h2 => ?_)
  refine ift.of (fun h => ?_) (fun h => ?_)
  · have h := of_decide_eq_true h
    rw [if_pos (by omega)] at k
    exact ⟨H, Gh.le hle1, k⟩
  have h := of_decide_eq_false h
  rw [if_neg (by omega)] at k
  refine bxV hb1 (look_ok (hv.le hle1) hB fun g hg => ?_)
  refine ift.of (fun h => ?_) (fun h => ?_)
  · have h : formV v = false := by simpa using h
    rw [if_pos h] at k
    exact ⟨H, Gh.le hle1, k⟩
  have hf : formV v = true := by simpa using h
  rw [if_neg (by rw [hf]; decide)] at k
  rw [hg hf]
  refine ift.of (fun h => ?_) (fun h => ?_)
  · have h : fitsV v = false := by simpa using h
    rw [if_pos h] at k
    exact ⟨H, Gh.le hle1, k⟩
  have hf : fitsV v = true := by simpa using h
  rw [if_neg (by rw [hf]; decide)] at k
  exact ⟨H, Gh.le hle1, k⟩
end
end Sx
