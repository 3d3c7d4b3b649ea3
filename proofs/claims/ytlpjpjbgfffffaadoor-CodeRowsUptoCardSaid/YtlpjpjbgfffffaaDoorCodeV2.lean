/-
  The bytes of values: the document's writer; the program's pen.
-/
import Derived.Test.YtlpjpjbgfffffaaDoorCodeV1
set_option linter.unusedVariables false
set_option linter.unusedSimpArgs false
set_option maxRecDepth 10000
namespace Sx
open Go Go.Proofs

theorem ct_len {n : Nat} (h : n ≤ 2147483647) : Ct (n : Int) = numB 0 n := by unfold Ct; rw [if_pos (by omega)]; rfl
theorem isMin_no {s : Str} (h : isMin s = false) : unmin s = s := by
  unfold isMin at h
  unfold unmin
  rw [if_neg (of_decide_eq_false h)]
theorem isMin_yes {s : Str} (h : isMin s = true) : unmin s = s.tail ∧ s = 45 :: s.tail := by
  unfold isMin at h
  have h := of_decide_eq_true h
  unfold unmin
  rw [if_pos h]
  cases s with
  | nil => simp at h
  | cons c t => simp at h; subst h; exact ⟨rfl, rfl⟩
theorem unmin_le (s : Str) : (unmin s).length ≤ s.length := by unfold unmin; split <;> simp

section
variable {C : Ctx} {H : Heap}

theorem rbig0_ok {s : Str} {K : Sl → Heap → Prop} (hs : s.length < 2147483648) (hne : s ≠ []) (hm : isMin s = false) (k : ∀ r H2, OwnF H H2 1 r (bytesV (128 :: (numB 0 s.length ++ s))) → K r H2) : c_ref03_big C s K H := by
  apply ad_ref03_big
  unfold sh_ref03_big
  cases s with
  | nil => exact absurd rfl hne
  | cons c t =>
  refine ⟨c, by omega, rfl, ?_⟩
  dsimp only
  rw [isMin_eq (t := t), hm]
  refine ift_neg rfl fun b nb => ?_
  refine rCount_ok (a := [128]) (lit_bytes rfl) rfl (by simp) fun r1 H1 h1 => ?_
  rw [ct_len (by omega)] at h1
  have hk := kl_le4 (n := (c :: t).length) (by omega)
  refine s2b_ok fun b2 cap H2 hb2 hH2 hcap hr2 => ?_
  have hle2 : H1.le H2 := by rw [hH2]; exact Heap.le_put hb2
  refine with_ok (rdsl_le hle2 h1.own.rdsl) h1.lenB hr2 rfl (by simp [numB_len] at *; omega) fun r3 H3 h3 => ?_
  refine k r3 H3 ?_
  have := h3.down ((Heap.le_put nb).trans (h1.le.trans hle2))
  simpa using this
theorem rbig_ok {s : Str} {K : Sl → Heap → Prop} (hs : s.length < 2147483648) (hn : numS s = true) (k : ∀ r H2, OwnF H H2 1 r (bytesV (Bg s)) → K r H2) : c_ref03_big C s K H := by
  cases hm : isMin s with
  | false =>
    refine rbig0_ok hs (numS_ne hn) hm fun r H2 h2 => k r H2 ?_
    unfold Bg
    rw [hm, isMin_no hm]; exact h2
  | true =>
    obtain ⟨h1, h2⟩ := isMin_yes hm
    obtain ⟨h3, h4⟩ := numS_isMin hn hm
    have hb : Bg s = (128 :: (numB 0 s.tail.length ++ s.tail)).map (· ^^^ 255) := by unfold Bg; rw [hm, h1]; rfl
    rw [hb] at k
    generalize s.tail = t at *
    subst h2
    apply ad_ref03_big
    unfold sh_ref03_big
    refine ⟨45, by omega, rfl, ift_pos rfl ⟨by omega, by simp only [List.length_cons]; omega, by omega, t, ?_, ?_⟩⟩
    · rw [List.take_of_length_le (by omega)]; rfl
    simp only [List.length_cons] at hs
    have hk := kl_le4 (n := t.length) (by omega)
    refine rbig0_ok (by omega) h4 h3 fun r H2 h2 => ?_
    refine rturned_ok h2.own.rdsl h2.lenB (by simp [numB_len]; omega) fun r3 H3 h3 => ?_
    exact k r3 H3 (h3.down h2.le)

theorem mayN (v : V) (h : formV v = true) : okN v.k v.n v.s v.l.length = true ∧ formVs v.l = true := by rw [formV_eq, Bool.and_eq_true] at h; exact h
theorem okN_k {k n : Int} {s : Str} {m : Nat} (h : okN k n s m = true) : k = 1 ∨ k = 2 ∨ k = 3 ∨ k = 4 ∨ k = 5 ∨ k = 6 := by
  unfold okN at h
  by_cases h1 : k = 1
  · exact .inl h1
  by_cases h2 : k = 2
  · exact .inr (.inl h2)
  by_cases h3 : k = 3
  · exact .inr (.inr (.inl h3))
  by_cases h4 : k = 4
  · exact .inr (.inr (.inr (.inl h4)))
  by_cases h5 : k = 5
  · exact .inr (.inr (.inr (.inr (.inl h5))))
  by_cases h6 : k = 6
  · exact .inr (.inr (.inr (.inr (.inr h6))))
  rw [if_neg h1, if_neg h2, if_neg h3, if_neg h4, if_neg h5, if_neg h6] at h; cases h
theorem okN_bool {k n : Int} {s : Str} {m : Nat} (h : okN k n s m = true) (hk : k = 1) : n = 0 ∨ n = 1 := by
  unfold okN at h
  rw [if_pos hk] at h
  simp only [Bool.and_eq_true, Bool.or_eq_true, beq_iff_eq] at h
  exact h.1.1

/-- what a literal of one byte holds -/
theorem own_lit {H : Heap} {b : Nat} {c : UInt8} (nb : H b = none) : OwnF H (H.put b (.row [.int .u8 (c.toNat : Int)])) 1 (Sl.of (some (b, 0)) 1 1) (bytesV [c]) :=
  ⟨Heap.le_put nb, ⟨rfl, rfl, Nat.le_refl _, .inr ⟨b, [], rfl, by rw [Heap.put_same]; rfl, by simp [bytesV]⟩⟩, fun p hp => by injection hp with hp; subst hp; exact nb⟩

theorem rput_ok {v : V} {x : TV} {H : Heap} {K : Sl → Heap → Prop} (hv : VIs H v x) (hB : VB v) (hF : formV v = true) (hs : vtot v < 2147483648) (k : ∀ r H2, OwnF H H2 1 r (bytesV (encV v)) → K r H2) : c_ref03_put C x K H := by
  refine V.rec_ (P := fun v => ∀ {x H} {K : Sl → Heap → Prop}, VIs H v x → VB v → formV v = true → vtot v < 2147483648 → (∀ r H2, OwnF H H2 1 r (bytesV (encV v)) → K r H2) → c_ref03_put C x K H) (fun v ih => ?_) v hv hB hF hs k
  clear hv hB hF hs k
  intro x H K hv hB hF hs k
  obtain ⟨hok, hfl⟩ := mayN v hF
  have hkk := hB.k
  have hnn := hB.n
  rw [vtot_eq] at hs
  have hr := hv.row
  have hl := hr.len
  have htl := Tx_len v.s
  have hzc := zc_le v.s
  apply ad_ref03_put
  unfold sh_ref03_put
  intro b1 n1
  refine bxK (Heap.put_same ..) ?_
  rw [hv.kind]
  have hkc : v.k = ((UInt8.ofNat v.k.toNat).toNat : Int) := by rw [UInt8.toNat_ofNat']; omega
  intro b5 n5
  have hle1 := Heap.le_put n1 (g := .row (T_api_Value.c x)) (m := true)
  have hb1 : ((H.put b1 (.row (T_api_Value.c x))).put b5 (.row [.int .u8 v.k])) b1 = some (true, .row (T_api_Value.c x)) := Heap.le_put n5 _ _ (Heap.put_same ..)
  have ho5 : OwnF (H.put b1 (.row (T_api_Value.c x))) ((H.put b1 (.row (T_api_Value.c x))).put b5 (.row [.int .u8 v.k])) 1 (Sl.of (some (b5, 0)) 1 1) (bytesV [UInt8.ofNat v.k.toNat]) := by
    have := own_lit (c := UInt8.ofNat v.k.toNat) n5
    rw [← hkc] at this; exact this
  have hb10 : (H.put b1 (.row (T_api_Value.c x))) b1 = some (true, .row (T_api_Value.c x)) := Heap.put_same ..
  generalize H.put b1 (.row (T_api_Value.c x)) = H1 at *
  generalize H1.put b5 (.row [.int .u8 v.k]) = H2 at *
  have hr5 := ho5.own.rdsl
  have hl5 : (Sl.of (some (b5, 0)) 1 1).len = ([UInt8.ofNat v.k.toNat] : Str).length := rfl
  have hle2 := ho5.le
  rw [encV_eq] at k
  refine ⟨fun r H' => OwnF H1 H' 1 r (bytesV (UInt8.ofNat v.k.toNat :: (if v.k = 5 then [] else Tx v.s))) ∧ (v.k = 5 ∨ v.k = 6), ?_, ?_⟩
  rotate_left
  · rintro r H' ⟨ho, hk56⟩
    have e56 : ∀ r H2, OwnF H H2 1 r (bytesV ((UInt8.ofNat v.k.toNat :: (if v.k = 5 then [] else Tx v.s)) ++ encVs v.l)) → K r H2 := fun r H2 h2 => k r H2 (by
      rw [if_neg (by omega), if_neg (by omega), if_neg (by omega), if_neg (by omega)]
      rcases hk56 with h | h
      · rw [if_pos h] at h2 ⊢; simpa using h2
      · rw [if_neg (by omega)] at h2
        rw [if_neg (by omega), if_pos h]; simpa using h2)
    clear k
    have hpl : (UInt8.ofNat v.k.toNat :: (if v.k = 5 then [] else Tx v.s)).length ≤ 2 * v.s.length + 3 := by
      simp only [List.length_cons]; split
      · simp
      · omega
    generalize (UInt8.ofNat v.k.toNat :: (if v.k = 5 then [] else Tx v.s)) = pre at *
    refine ⟨fun y H'' => ∃ i : Nat, y.2 = (i : Int) ∧ i ≤ v.l.length ∧ OwnF H1 H'' 1 y.1 (bytesV (pre ++ encLs (v.l.take i))), fun y _ => v.l.length - y.2.toNat, ⟨0, rfl, Nat.zero_le _, by simpa [encLs] using ho⟩, ?_⟩
    rintro ⟨y1, y2⟩ H3 ⟨i, hy, hi, h3⟩
    dsimp only at hy h3
    subst hy
    have hbB := h3.le _ _ hb10
    have hlen3 := h3.lenB
    have hlt3 := encLs_len (v.l.take i) fun w hw => encV_len w (hB.ls.mem (List.mem_of_mem_take hw)) (by have := vtots_mem (List.mem_of_mem_take hw); omega)
    have hvt := vtots_take v.l i
    rw [List.length_append] at hlen3
    refine bxL hbB ?_
    dsimp only
    rw [hl]
    refine ift.of (fun h => ?_) (fun h => ?_)
    · have hlt : i < v.l.length := by have := of_decide_eq_true h; omega
      have hmem := List.getElem_mem hlt
      have hmv := vtots_mem hmem
      have hel := encV_len v.l[i] (hB.ls.mem hmem) (by omega)
      have hets := encLs_take hlt
      refine ⟨H1, h3.le, bxL hb10 ?_⟩
      refine hr.ld hle1 rfl hlt fun z hz => ?_
      intro b8 n8
      refine ⟨h3.le.trans (Heap.le_put n8), ?_⟩
      refine apS_bytes (h3.up (Heap.le_put n8)) (lit_bytes (s := [1]) rfl) rfl (by simp; omega) fun r4 H4 h4 _ => ?_
      refine ⟨h4.le, ?_⟩
      refine ih _ hmem (hz.le (hle1.trans h4.le)) (hB.at hlt) (formVs_mem hmem hfl) (by omega) fun r5 H5 h5 => ?_
      refine ⟨h4.le.trans h5.le, ?_⟩
      refine with_ok (rdsl_le h5.le h4.own.rdsl) h4.lenB h5.own.rdsl h5.lenB (by simp; omega) fun r6 H6 h6 => ?_
      refine ⟨(h4.le.trans h5.le).trans h6.le, ?_⟩
      rw [w_i64 (by have := hB.l; omega) (by have := hB.l; omega)]
      refine ⟨⟨i + 1, rfl, by omega, ?_⟩, by first | omega | (dsimp only; omega)⟩
      rw [hets]
      have := h6.down (h4.le.trans h5.le)
      simpa using this
    · have hie : i = v.l.length := by have := of_decide_eq_false h; omega
      subst hie
      rw [List.take_length] at h3 hlen3 hlt3
      refine apd_ownF (zc := [.int .u8 0]) h3 rfl (by omega) (by omega) fun r4 H4 h4 _ => ?_
      refine e56 r4 H4 ?_
      rw [encVs_eq, ← List.append_assoc, bytesV_append]; exact h4.down hle1
  refine bxK hb1 ?_
  rw [hv.kind]
  have kd : ∀ {e : Str} r H3, OwnF H2 H3 1 r (bytesV ([UInt8.ofNat v.k.toNat] ++ e)) → e = (if v.k = 1 then [if v.n = 1 then 1 else 0] else if v.k = 2 then Nm v.n else if v.k = 3 then Bg v.s else if v.k = 4 then Tx v.s else if v.k = 5 then encVs v.l else if v.k = 6 then Tx v.s ++ encVs v.l else []) → K r H3 := fun r H3 h3 he => by
    subst he
    exact k r H3 (h3.down (hle1.trans hle2))
  refine ift.of (fun h => ?_) (fun h => ?_)
  · have h : v.k = 1 := by simpa using h
    refine bxN hb1 ?_
    rw [hv.num]
    refine rFlag_ok hr5 hl5 (by simp) fun r H3 h3 => kd r H3 h3 ?_
    rw [if_pos h]
    by_cases hn : v.n = 1
    · rw [if_pos hn, if_pos (by simpa using hn)]
    · rw [if_neg hn, if_neg (by simpa using hn)]
  have g1 : v.k ≠ 1 := by simpa using h
  refine ift.of (fun h => ?_) (fun h => ?_)
  · have h : v.k = 2 := by simpa using h
    refine bxN hb1 ?_
    rw [hv.num]
    refine rNum_ok hr5 hl5 hnn.1 hnn.2 (by simp) fun r H3 h3 => kd r H3 h3 ?_
    rw [if_neg g1, if_pos h]
  have g2 : v.k ≠ 2 := by simpa using h
  refine ift.of (fun h => ?_) (fun h => ?_)
  · have h : v.k = 3 := by simpa using h
    refine bxS hb1 ?_
    rw [hv.txt]
    have hbl := Bg_len v.s (by omega)
    refine rbig_ok (by omega) (okN_num hok h) fun r H3 h3 => ?_
    refine with_ok (rdsl_le h3.le hr5) hl5 h3.own.rdsl h3.lenB (by simp; omega) fun r4 H4 h4 => kd r4 H4 (h4.down h3.le) ?_
    rw [if_neg g1, if_neg g2, if_pos h]
  have g3 : v.k ≠ 3 := by simpa using h
  refine ift.of (fun h => ?_) (fun h => ?_)
  · have h : v.k = 4 := by simpa using h
    refine bxS hb1 ?_
    rw [hv.txt]
    refine rStr_ok hr5 hl5 (by simp; omega) fun r H3 h3 => kd r H3 h3 ?_
    rw [if_neg g1, if_neg g2, if_neg g3, if_pos h]
  have g4 : v.k ≠ 4 := by simpa using h
  refine ift.of (fun h => ?_) (fun h => ?_)
  · have h : v.k = 6 := by simpa using h
    refine bxS hb1 ?_
    rw [hv.txt]
    refine rStr_ok hr5 hl5 (by simp; omega) fun r H3 h3 => ⟨?_, .inr h⟩
    rw [if_neg (by omega)]
    exact h3.down hle2
  have g6 : v.k ≠ 6 := by simpa using h
  have h5 : v.k = 5 := by have := okN_k hok; omega
  refine ⟨?_, .inl h5⟩
  rw [if_pos h5]; exact ho5

theorem rValue_ok {s : Sl} {a : Str} {v : V} {x : TV} {K : Sl → Heap → Prop} (hr : rdsl H s (bytesV a)) (hl : s.len = a.length) (hv : VIs H v x) (hB : VB v) (hs : vtot v < 2147483648) (hz : vsize v ≤ 4611686018427387904) (hm : a.length ≤ 1000000000000)
    (k : ∀ r H2, OwnF H H2 1 r (bytesV (a ++ if mayV v then encV v else [])) → K r H2) : c_ref03_Value C s x K H := by
  apply ad_ref03_Value
  unfold sh_ref03_Value
  intro b1 n1
  have hb1 : (H.put b1 (.row (T_api_Value.c x))) b1 = some (true, .row (T_api_Value.c x)) := Heap.put_same ..
  have hle1 := Heap.le_put n1 (g := .row (T_api_Value.c x)) (m := true)
  generalize H.put b1 (.row (T_api_Value.c x)) = H1 at *
  refine bxV hb1 (ref02_Check_ok (hv.le hle1) hB hz ?_)
  rw [bne, mayV_dec]
  have hr1 := rdsl_le hle1 hr
  cases hmv : mayV v with
  | false =>
    rw [hmv] at k
    exact ift_pos rfl (with_ok hr1 hl rdsl_none rfl (by simp; omega) fun r H2 h2 => k r H2 (by simpa using h2.down hle1))
  | true =>
    rw [hmv] at k
    have hel := encV_len v hB hs
    refine ift_neg rfl (bxV hb1 (rput_ok (hv.le hle1) hB (mayV_form hmv) hs fun r H2 h2 => ?_))
    exact with_ok (rdsl_le h2.le hr1) hl h2.own.rdsl h2.lenB (by omega) fun r3 H3 h3 => k r3 H3 (by simpa using h3.down (hle1.trans h2.le))
end
end Sx
