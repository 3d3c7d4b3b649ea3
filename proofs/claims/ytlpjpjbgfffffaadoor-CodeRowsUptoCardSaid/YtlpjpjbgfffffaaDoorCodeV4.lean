/-
  Plain law: the bytes of values stand as the values do.
-/
import Derived.Test.YtlpjpjbgfffffaaDoorCodeV3
set_option linter.unusedVariables false
set_option linter.unusedSimpArgs false
set_option maxRecDepth 10000
namespace Sx
open Go Go.Proofs

/-- c tells how s and t stand, at a place that both have; 0: P -/
def Ord (c : Int) (s t : Str) (P : Prop) : Prop := (c = -1 ∧ Lt s t) ∨ (c = 1 ∧ Lt t s) ∨ (c = 0 ∧ P)
theorem Ord.pre {c : Int} {s t : Str} {P : Prop} (p : Str) (h : Ord c s t P) : Ord c (p ++ s) (p ++ t) P := by
  rcases h with ⟨h1, h2⟩ | ⟨h1, h2⟩ | h
  · exact .inl ⟨h1, h2.pre p⟩
  · exact .inr (.inl ⟨h1, h2.pre p⟩)
  · exact .inr (.inr h)
theorem Ord.cons {c : Int} {s t : Str} {P : Prop} (p : UInt8) (h : Ord c s t P) : Ord c (p :: s) (p :: t) P := h.pre [p]
theorem Ord.mono {c : Int} {s t : Str} {P Q : Prop} (h : Ord c s t P) (hpq : P → Q) : Ord c s t Q := by
  rcases h with h | h | ⟨h1, h2⟩
  · exact .inl h
  · exact .inr (.inl h)
  · exact .inr (.inr ⟨h1, hpq h2⟩)
/-- first one, then the other -/
theorem Ord.seq {c d : Int} {s t x y : Str} {P : Prop} (h : Ord c s t (s = t)) (h2 : s = t → Ord d x y P) : Ord (if c ≠ 0 then c else d) (s ++ x) (t ++ y) P := by
  rcases h with ⟨rfl, h⟩ | ⟨rfl, h⟩ | ⟨rfl, rfl⟩
  · exact .inl ⟨by simp, h.app x y⟩
  · exact .inr (.inl ⟨by simp, h.app y x⟩)
  · simpa using (h2 rfl).pre s

theorem vcmpS_eq : ∀ s t : Str, vcmpS s t = cmpS s t
  | [], [] => rfl
  | [], _ :: _ => rfl
  | _ :: _, [] => rfl
  | a :: s, b :: t => by
    simp only [vcmpS, cmpS]
    rcases u8_tri a b with h | h | rfl
    · have hne : a ≠ b := fun e => by subst e; exact u8_irr _ h
      have : a.toNat < b.toNat := h
      rw [if_neg hne, if_pos h]; unfold sgn; rw [if_pos (by omega)]
    · have hne : a ≠ b := fun e => by subst e; exact u8_irr _ h
      have h' : b.toNat < a.toNat := h
      rw [if_neg hne, if_neg (u8_asym h), if_pos h]; unfold sgn; rw [if_neg (by omega), if_pos (by omega)]
    · rw [if_pos rfl, if_neg (u8_irr a), if_neg (u8_irr a)]; exact vcmpS_eq s t
theorem cmpS_val (s t : Str) : cmpS s t = -1 ∨ cmpS s t = 1 ∨ cmpS s t = 0 := by
  induction s generalizing t with
  | nil => cases t <;> simp [cmpS]
  | cons a s ih =>
    cases t with
    | nil => simp [cmpS]
    | cons b t =>
      simp only [cmpS]
      split
      · simp
      · split
        · simp
        · exact ih t
theorem ord_Tx (s t : Str) : Ord (vcmpS s t) (Tx s) (Tx t) (s = t) := by
  rw [vcmpS_eq]
  rcases cmpS_val s t with h | h | h
  · exact .inl ⟨h, Tx_lt s t (by omega)⟩
  · exact .inr (.inl ⟨h, Tx_lt t s (by rw [cmpS_anti]; omega)⟩)
  · exact .inr (.inr ⟨h, (slt_cmp s t).2.1 h⟩)
theorem ord_len : ∀ {s t : Str}, s.length = t.length → Ord (vcmpS s t) s t (s = t)
  | [], [], _ => .inr (.inr ⟨rfl, rfl⟩)
  | a :: s, b :: t, h => by
    have ih := ord_len (s := s) (t := t) (by simpa using h)
    simp only [vcmpS]
    rcases u8_tri a b with h | h | rfl
    · have hne : a ≠ b := fun e => by subst e; exact u8_irr _ h
      have h' : a.toNat < b.toNat := h
      rw [if_neg hne]
      exact .inl ⟨by unfold sgn; rw [if_pos (by omega)], .head h⟩
    · have hne : a ≠ b := fun e => by subst e; exact u8_irr _ h
      have h' : b.toNat < a.toNat := h
      rw [if_neg hne]
      exact .inr (.inl ⟨by unfold sgn; rw [if_neg (by omega), if_pos (by omega)], .head h⟩)
    · rw [if_pos rfl]
      exact (ih.cons a).mono fun e => by rw [e]
theorem ord_sgn {a b : Int} {s t : Str} (h1 : a < b → Lt s t) (h2 : b < a → Lt t s) : Ord (sgn a b) s t (a = b) := by
  unfold sgn
  by_cases h : a < b
  · rw [if_pos h]; exact .inl ⟨rfl, h1 h⟩
  · rw [if_neg h]
    by_cases h' : b < a
    · rw [if_pos h']; exact .inr (.inl ⟨rfl, h2 h'⟩)
    · rw [if_neg h']; exact .inr (.inr ⟨rfl, by omega⟩)
/-- digits behind how many they are -/
theorem ord_D {a b : Str} (ha : a.length < 2147483648) (hb : b.length < 2147483648) : Ord (cmpD a b) (numB 0 a.length ++ a) (numB 0 b.length ++ b) (a = b) := by
  unfold cmpD
  by_cases h : a.length = b.length
  · rw [if_pos h, h]
    exact (ord_len h).pre _
  · rw [if_neg h]
    have := ord_sgn (a := (a.length : Int)) (b := (b.length : Int)) (s := numB 0 a.length ++ a) (t := numB 0 b.length ++ b) (fun hl => (numB_lt (by omega) (by omega) (by omega)).app a b) (fun hl => (numB_lt (by omega) (by omega) (by omega)).app b a)
    exact this.mono fun e => absurd e (by omega)
theorem ord_Bg {a b : Str} (ha : a.length < 2147483648) (hb : b.length < 2147483648) : Ord (cmpB a b) (Bg a) (Bg b) (a = b) := by
  unfold cmpB Bg
  have hua := unmin_le a
  have hub := unmin_le b
  cases hma : isMin a with
  | false =>
    cases hmb : isMin b with
    | false =>
      rw [isMin_no hma, isMin_no hmb]
      exact (ord_D ha hb).cons 128
    | true => exact .inr (.inl ⟨rfl, .head (by decide)⟩)
  | true =>
    cases hmb : isMin b with
    | false => exact .inl ⟨rfl, .head (by decide)⟩
    | true =>
      obtain ⟨h1, h2⟩ := isMin_yes hma
      obtain ⟨h3, h4⟩ := isMin_yes hmb
      rw [h1] at hua ⊢
      rw [h3] at hub ⊢
      have := (ord_D (a := b.tail) (b := a.tail) (by omega) (by omega)).cons 128
      rcases this with ⟨g1, g2⟩ | ⟨g1, g2⟩ | ⟨g1, g2⟩
      · exact .inl ⟨g1, g2.flip⟩
      · exact .inr (.inl ⟨g1, g2.flip⟩)
      · exact .inr (.inr ⟨g1, by rw [h2, h4, g2]⟩)

theorem encV_ne (v : V) : encV v ≠ [] := by rw [encV_eq]; simp
theorem ord_list : ∀ (l m : List V), (∀ v ∈ l, ∀ w ∈ m, Ord (cmpV v w) (encV v) (encV w) (v = w)) → Ord (cmpVs l m) (encVs l) (encVs m) (l = m)
  | [], [], _ => .inr (.inr ⟨rfl, rfl⟩)
  | [], w :: m, _ => .inl ⟨rfl, .head (by decide)⟩
  | v :: l, [], _ => .inr (.inl ⟨rfl, .head (by decide)⟩)
  | v :: l, w :: m, h => by
    have h1 := h v (List.mem_cons_self ..) w (List.mem_cons_self ..)
    have h2 := ord_list l m fun a ha b hb => h a (List.mem_cons_of_mem _ ha) b (List.mem_cons_of_mem _ hb)
    simp only [cmpVs, encVs]
    rcases h1 with ⟨g1, g2⟩ | ⟨g1, g2⟩ | ⟨g1, g2⟩
    · rw [g1]; exact .inl ⟨by simp, .tail (g2.app _ _)⟩
    · rw [g1]; exact .inr (.inl ⟨by simp, .tail (g2.app _ _)⟩)
    · subst g2
      rw [g1]
      simp only [ne_eq, not_true_eq_false, if_false]
      exact ((h2.pre (encV v)).cons 1).mono fun e => by rw [e]

theorem V.ext {v w : V} (h1 : v.k = w.k) (h2 : v.n = w.n) (h3 : v.s = w.s) (h4 : v.l = w.l) : v = w := by
  obtain ⟨k, n, s, l⟩ := v
  obtain ⟨k', n', s', l'⟩ := w
  simp only [V.k, V.n, V.s, V.l] at h1 h2 h3 h4
  rw [h1, h2, h3, h4]
theorem okN_nl {k n : Int} {s : Str} {m : Nat} (h : okN k n s m = true) : (k = 1 ∨ k = 2 → s = [] ∧ m = 0) ∧ (k = 3 ∨ k = 4 → n = 0 ∧ m = 0) ∧ (k = 5 → n = 0 ∧ s = []) ∧ (k = 6 → n = 0) := by
  unfold okN at h
  refine ⟨fun hk => ?_, fun hk => ?_, fun hk => ?_, fun hk => ?_⟩
  · rcases hk with rfl | rfl
    · simp at h; exact ⟨h.1.2, h.2⟩
    · simp at h; exact h
  · rcases hk with rfl | rfl
    · simp at h; exact ⟨h.1.2, h.2⟩
    · simp at h; exact h
  · subst hk; simp at h; exact h.1
  · subst hk; simp at h; exact h.1

theorem ord_V (v w : V) (hB : VB v) (hB2 : VB w) (hF : formV v = true) (hF2 : formV w = true) (hs : vtot v < 2147483648) (hs2 : vtot w < 2147483648) : Ord (cmpV v w) (encV v) (encV w) (v = w) := by
  refine V.rec_ (P := fun v => ∀ w, VB v → VB w → formV v = true → formV w = true → vtot v < 2147483648 → vtot w < 2147483648 → Ord (cmpV v w) (encV v) (encV w) (v = w)) (fun v ih => ?_) v w hB hB2 hF hF2 hs hs2
  clear hB hB2 hF hF2 hs hs2
  intro w hB hB2 hF hF2 hs hs2
  obtain ⟨ok1, fl1⟩ := mayN v hF
  obtain ⟨ok2, fl2⟩ := mayN w hF2
  obtain ⟨a1, a2, a3, a4⟩ := okN_nl ok1
  obtain ⟨b1, b2, b3, b4⟩ := okN_nl ok2
  have hk1 := hB.k
  have hk2 := hB2.k
  rw [vtot_eq] at hs hs2
  rw [cmpV_eq, encV_eq, encV_eq]
  by_cases hkk : v.k = w.k
  rotate_left
  · rw [if_pos hkk]
    refine (ord_sgn (fun h => .head ?_) (fun h => .head ?_)).mono fun e => absurd e hkk
    · show (UInt8.ofNat _).toNat < (UInt8.ofNat _).toNat
      rw [UInt8.toNat_ofNat', UInt8.toNat_ofNat']; omega
    · show (UInt8.ofNat _).toNat < (UInt8.ofNat _).toNat
      rw [UInt8.toNat_ofNat', UInt8.toNat_ofNat']; omega
  rw [if_neg (by simp [hkk]), ← hkk]
  refine Ord.cons _ ?_
  have hl : Ord (cmpVs v.l w.l) (encVs v.l) (encVs w.l) (v.l = w.l) := ord_list v.l w.l fun p hp q hq => ih p hp q (hB.ls.mem hp) (hB2.ls.mem hq) (formVs_mem hp fl1) (formVs_mem hq fl2) (by have := vtots_mem hp; omega) (by have := vtots_mem hq; omega)
  have nil0 : ∀ {l : List V}, l.length = 0 → l = [] := fun h => List.length_eq_zero_iff.1 h
  rcases okN_k ok1 with h | h | h | h | h | h
  · obtain ⟨c1, c2⟩ := a1 (.inl h)
    obtain ⟨d1, d2⟩ := b1 (.inl (by omega))
    rw [if_neg (by omega), if_neg (by omega), if_neg (by omega), if_neg (by omega), if_pos h, if_pos h]
    have n1 := okN_bool ok1 h
    have n2 := okN_bool ok2 (by omega)
    refine (ord_sgn (fun hh => ?_) (fun hh => ?_)).mono fun e => V.ext hkk e (by rw [c1, d1]) (by rw [nil0 c2, nil0 d2])
    · have e1 : v.n = 0 := by omega
      have e2 : w.n = 1 := by omega
      rw [e1, e2]; exact .head (by decide)
    · have e1 : v.n = 1 := by omega
      have e2 : w.n = 0 := by omega
      rw [e1, e2]; exact .head (by decide)
  · obtain ⟨c1, c2⟩ := a1 (.inr h)
    obtain ⟨d1, d2⟩ := b1 (.inr (by omega))
    rw [if_neg (by omega), if_neg (by omega), if_neg (by omega), if_neg (by omega), if_neg (by omega), if_pos h, if_neg (by omega), if_pos h]
    exact (ord_sgn (fun hh => Nm_lt hB.n.1 hB2.n.2 hh) (fun hh => Nm_lt hB2.n.1 hB.n.2 hh)).mono fun e => V.ext hkk e (by rw [c1, d1]) (by rw [nil0 c2, nil0 d2])
  · obtain ⟨c1, c2⟩ := a2 (.inl h)
    obtain ⟨d1, d2⟩ := b2 (.inl (by omega))
    rw [if_pos h, if_neg (by omega), if_neg (by omega), if_pos h, if_neg (by omega), if_neg (by omega), if_pos h]
    exact (ord_Bg (by omega) (by omega)).mono fun e => V.ext hkk (by rw [c1, d1]) e (by rw [nil0 c2, nil0 d2])
  · obtain ⟨c1, c2⟩ := a2 (.inr h)
    obtain ⟨d1, d2⟩ := b2 (.inr (by omega))
    rw [if_neg (by omega), if_pos h, if_neg (by omega), if_neg (by omega), if_neg (by omega), if_pos h, if_neg (by omega), if_neg (by omega), if_neg (by omega), if_pos h]
    exact (ord_Tx v.s w.s).mono fun e => V.ext hkk (by rw [c1, d1]) e (by rw [nil0 c2, nil0 d2])
  · obtain ⟨c1, c2⟩ := a3 h
    obtain ⟨d1, d2⟩ := b3 (by omega)
    rw [if_neg (by omega), if_neg (by omega), if_pos h, if_neg (by omega), if_neg (by omega), if_neg (by omega), if_neg (by omega), if_pos h, if_neg (by omega), if_neg (by omega), if_neg (by omega), if_neg (by omega), if_pos h]
    exact hl.mono fun e => V.ext hkk (by rw [c1, d1]) (by rw [c2, d2]) e
  · have c1 := a4 h
    have d1 := b4 (by omega)
    rw [h]
    show Ord (if vcmpS v.s w.s ≠ 0 then vcmpS v.s w.s else cmpVs v.l w.l) (Tx v.s ++ encVs v.l) (Tx w.s ++ encVs w.l) (v = w)
    rcases ord_Tx v.s w.s with ⟨g1, g2⟩ | ⟨g1, g2⟩ | ⟨g1, g2⟩
    · rw [g1]; exact .inl ⟨by simp, g2.app _ _⟩
    · rw [g1]; exact .inr (.inl ⟨by simp, g2.app _ _⟩)
    · rw [g1, g2]
      simp only [ne_eq, not_true_eq_false, if_false]
      exact (hl.pre _).mono fun e => V.ext hkk (by rw [c1, d1]) g2 e

/-- how the bytes stand, whatever stands behind -/
theorem Ord.cmp {c : Int} {s t : Str} {P : Prop} (h : Ord c s t P) (hp : P → s = t) : cmpS s t = c ∧ (c ≠ 0 → ∀ x y, cmpS (s ++ x) (t ++ y) = c) := by
  rcases h with ⟨rfl, h⟩ | ⟨rfl, h⟩ | ⟨rfl, h⟩
  · exact ⟨h.cmp.1, fun _ x y => (h.app x y).cmp.1⟩
  · exact ⟨h.cmp.2, fun _ x y => (h.app y x).cmp.2⟩
  · exact ⟨(slt_cmp s t).2.2 (hp h), fun h => absurd rfl h⟩
end Sx
