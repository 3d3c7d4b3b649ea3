/-
  The whole frames of bytes; the two readers.
-/
import Derived.Test.YtkmedfjmpcfgaaaFrameP2
set_option linter.unusedVariables false
set_option maxRecDepth 10000
namespace Sx
open Go Go.Proofs

section
variable (num sum : Str → Nat)
def bodyG (s : Str) : Str := (s.take (4 + num s)).drop 4

/-- the bodies of the whole frames, what is left, and why no more is read: by fuel -/
def cutF : Nat → Str → List Str × Str × Int
  | 0, s => ([], s, 0)
  | f + 1, s =>
    if s.length < 4 then ([], s, 0)
    else if 65536 < num s then ([], [], 40)
    else if s.length < num s + 8 then ([], s, 0)
    else if num (s.drop (4 + num s)) ≠ sum (bodyG num s) then ([], [], 90)
    else (bodyG num s :: (cutF f (s.drop (8 + num s))).1, (cutF f (s.drop (8 + num s))).2)

inductive Hd (s : Str) : Prop
  | short (h : s.length < 4)
  | large (h : 4 ≤ s.length) (h2 : 65536 < num s)
  | wait (h : 4 ≤ s.length) (h2 : num s ≤ 65536) (h3 : s.length < num s + 8)
  | bad (h : 4 ≤ s.length) (h2 : num s ≤ 65536) (h3 : num s + 8 ≤ s.length) (h4 : num (s.drop (4 + num s)) ≠ sum (bodyG num s))
  | next (h : 4 ≤ s.length) (h2 : num s ≤ 65536) (h3 : num s + 8 ≤ s.length) (h4 : num (s.drop (4 + num s)) = sum (bodyG num s))

theorem hd (s : Str) : Hd num sum s := by
  by_cases h1 : s.length < 4
  · exact .short h1
  by_cases h2 : 65536 < num s
  · exact .large (by omega) h2
  by_cases h3 : s.length < num s + 8
  · exact .wait (by omega) (by omega) h3
  by_cases h4 : num (s.drop (4 + num s)) = sum (bodyG num s)
  · exact .next (by omega) (by omega) (by omega) h4
  · exact .bad (by omega) (by omega) (by omega) h4

variable {num sum}
theorem cutF_short {f : Nat} {s : Str} (h : s.length < 4) : cutF num sum f s = ([], s, 0) := by
  cases f with
  | zero => rfl
  | succ f => rw [cutF, if_pos h]
theorem cutF_large {f : Nat} {s : Str} (h1 : 4 ≤ s.length) (h : 65536 < num s) : cutF num sum (f + 1) s = ([], [], 40) := by rw [cutF, if_neg (by omega), if_pos h]
theorem cutF_wait {f : Nat} {s : Str} (h1 : 4 ≤ s.length) (h2 : num s ≤ 65536) (h : s.length < num s + 8) : cutF num sum f s = ([], s, 0) := by
  cases f with
  | zero => rfl
  | succ f => rw [cutF, if_neg (by omega), if_neg (by omega), if_pos h]
theorem cutF_bad {f : Nat} {s : Str} (h1 : 4 ≤ s.length) (h2 : num s ≤ 65536) (h3 : num s + 8 ≤ s.length) (h4 : num (s.drop (4 + num s)) ≠ sum (bodyG num s)) : cutF num sum (f + 1) s = ([], [], 90) := by
  rw [cutF, if_neg (by omega), if_neg (by omega), if_neg (by omega), if_pos h4]
theorem cutF_next {f : Nat} {s : Str} (h1 : 4 ≤ s.length) (h2 : num s ≤ 65536) (h3 : num s + 8 ≤ s.length) (h4 : num (s.drop (4 + num s)) = sum (bodyG num s)) :
    cutF num sum (f + 1) s = (bodyG num s :: (cutF num sum f (s.drop (8 + num s))).1, (cutF num sum f (s.drop (8 + num s))).2) := by
  rw [cutF, if_neg (by omega), if_neg (by omega), if_neg (by omega), if_neg (fun h => h h4)]

theorem cutF_fuel : ∀ (f g : Nat) (s : Str), s.length ≤ f → s.length ≤ g → cutF num sum f s = cutF num sum g s
  | 0, g, s, hf, hg => by rw [cutF_short (by omega), cutF_short (by omega)]
  | f + 1, 0, s, hf, hg => by rw [cutF_short (by omega), cutF_short (by omega)]
  | f + 1, g + 1, s, hf, hg => by
    rcases hd num sum s with h | ⟨h, h2⟩ | ⟨h, h2, h3⟩ | ⟨h, h2, h3, h4⟩ | ⟨h, h2, h3, h4⟩
    · rw [cutF_short h, cutF_short h]
    · rw [cutF_large h h2, cutF_large h h2]
    · rw [cutF_wait h h2 h3, cutF_wait h h2 h3]
    · rw [cutF_bad h h2 h3 h4, cutF_bad h h2 h3 h4]
    · rw [cutF_next h h2 h3 h4, cutF_next h h2 h3 h4, cutF_fuel f g (s.drop (8 + num s)) (by simp; omega) (by simp; omega)]

variable (num sum) in
def cutG (s : Str) : List Str × Str × Int := cutF num sum s.length s

theorem cutG_short {s : Str} (h : s.length < 4) : cutG num sum s = ([], s, 0) := cutF_short h
theorem cutG_large {s : Str} (h1 : 4 ≤ s.length) (h : 65536 < num s) : cutG num sum s = ([], [], 40) := by
  unfold cutG; rw [cutF_fuel _ (s.length + 1) s (Nat.le_refl _) (by omega)]; exact cutF_large h1 h
theorem cutG_wait {s : Str} (h1 : 4 ≤ s.length) (h2 : num s ≤ 65536) (h : s.length < num s + 8) : cutG num sum s = ([], s, 0) := cutF_wait h1 h2 h
theorem cutG_bad {s : Str} (h1 : 4 ≤ s.length) (h2 : num s ≤ 65536) (h3 : num s + 8 ≤ s.length) (h4 : num (s.drop (4 + num s)) ≠ sum (bodyG num s)) : cutG num sum s = ([], [], 90) := by
  unfold cutG; rw [cutF_fuel _ (s.length + 1) s (Nat.le_refl _) (by omega)]; exact cutF_bad h1 h2 h3 h4
theorem cutG_next {s : Str} (h1 : 4 ≤ s.length) (h2 : num s ≤ 65536) (h3 : num s + 8 ≤ s.length) (h4 : num (s.drop (4 + num s)) = sum (bodyG num s)) :
    cutG num sum s = (bodyG num s :: (cutG num sum (s.drop (8 + num s))).1, (cutG num sum (s.drop (8 + num s))).2) := by
  unfold cutG
  rw [cutF_fuel _ (s.length + 1) s (Nat.le_refl _) (by omega), cutF_next h1 h2 h3 h4, cutF_fuel _ (s.drop (8 + num s)).length (s.drop (8 + num s)) (by simp) (Nat.le_refl _)]

/-- by the bytes' head -/
theorem cut_ind {p : Str → Prop} (h : ∀ s, (∀ t : Str, t.length < s.length → p t) → p s) : ∀ s, p s := fun s => by
  have : ∀ n, ∀ s : Str, s.length ≤ n → p s := fun n => by
    induction n with
    | zero => exact fun s hs => h s fun t ht => by omega
    | succ n ih => exact fun s hs => h s fun t ht => ih t (by omega)
  exact this _ s (Nat.le_refl _)

theorem bodyG_append (hn : ∀ s t : Str, 4 ≤ s.length → num (s ++ t) = num s) {s t : Str} (h1 : 4 ≤ s.length) (h3 : num s + 8 ≤ s.length) : bodyG num (s ++ t) = bodyG num s := by
  unfold bodyG
  rw [hn _ _ h1, List.take_append_of_le_length (by omega)]

/-- what is read of bytes is read with whatever is behind them -/
theorem cutG_append (hn : ∀ s t : Str, 4 ≤ s.length → num (s ++ t) = num s) (t : Str) : ∀ (s : Str), (cutG num sum s).2.2 = 0 → cutG num sum (s ++ t) = ((cutG num sum s).1 ++ (cutG num sum ((cutG num sum s).2.1 ++ t)).1, (cutG num sum ((cutG num sum s).2.1 ++ t)).2) :=
  cut_ind fun s ih h0 => by
    rcases hd num sum s with h | ⟨h, h2⟩ | ⟨h, h2, h3⟩ | ⟨h, h2, h3, h4⟩ | ⟨h, h2, h3, h4⟩
    · rw [cutG_short h]; simp
    · rw [cutG_large h h2] at h0; simp at h0
    · rw [cutG_wait h h2 h3]; simp
    · rw [cutG_bad h h2 h3 h4] at h0; simp at h0
    · have e := cutG_next h h2 h3 h4
      rw [e] at h0 ⊢
      have ih := ih (s.drop (8 + num s)) (by simp; omega) h0
      have e1 : num (s ++ t) = num s := hn _ _ h
      have e2 : bodyG num (s ++ t) = bodyG num s := bodyG_append hn h h3
      have e3 : num ((s ++ t).drop (4 + num s)) = num (s.drop (4 + num s)) := by
        rw [List.drop_append_of_le_length (by omega)]
        exact hn _ _ (by simp; omega)
      have e4 : (s ++ t).drop (8 + num s) = s.drop (8 + num s) ++ t := List.drop_append_of_le_length (by omega)
      have := cutG_next (num := num) (sum := sum) (s := s ++ t) (by simp; omega) (by omega) (by simp; omega) (by rw [e1, e3, e2]; exact h4)
      rw [this, e1, e2, e4, ih]
      rfl

theorem cutG_len : ∀ s, (cutG num sum s).1.length * 8 ≤ s.length :=
  cut_ind fun s ih => by
    rcases hd num sum s with h | ⟨h, h2⟩ | ⟨h, h2, h3⟩ | ⟨h, h2, h3, h4⟩ | ⟨h, h2, h3, h4⟩
    · rw [cutG_short h]; simp
    · rw [cutG_large h h2]; simp
    · rw [cutG_wait h h2 h3]; simp
    · rw [cutG_bad h h2 h3 h4]; simp
    · rw [cutG_next h h2 h3 h4]
      have ih := ih (s.drop (8 + num s)) (by simp; omega)
      simp only [List.length_drop, List.length_cons] at ih ⊢
      omega

theorem cutG_rest : ∀ s, (cutG num sum s).2.1.length ≤ s.length :=
  cut_ind fun s ih => by
    rcases hd num sum s with h | ⟨h, h2⟩ | ⟨h, h2, h3⟩ | ⟨h, h2, h3, h4⟩ | ⟨h, h2, h3, h4⟩
    · rw [cutG_short h]; simp
    · rw [cutG_large h h2]; simp
    · rw [cutG_wait h h2 h3]; simp
    · rw [cutG_bad h h2 h3 h4]; simp
    · rw [cutG_next h h2 h3 h4]
      have ih := ih (s.drop (8 + num s)) (by simp; omega)
      simp only [List.length_drop] at ih ⊢
      omega

/-- where it is shut nothing is left -/
theorem cutG_shut : ∀ s, (cutG num sum s).2.2 ≠ 0 → (cutG num sum s).2.1 = [] :=
  cut_ind fun s ih h0 => by
    rcases hd num sum s with h | ⟨h, h2⟩ | ⟨h, h2, h3⟩ | ⟨h, h2, h3, h4⟩ | ⟨h, h2, h3, h4⟩
    · rw [cutG_short h] at h0; simp at h0
    · rw [cutG_large h h2]
    · rw [cutG_wait h h2 h3] at h0; simp at h0
    · rw [cutG_bad h h2 h3 h4]
    · rw [cutG_next h h2 h3 h4] at h0 ⊢
      exact ih (s.drop (8 + num s)) (by simp; omega) h0

theorem cutG_go {s0 s : Str} {l : List Str} (h0 : cutG num sum s0 = (l ++ (cutG num sum s).1, (cutG num sum s).2)) (h : 4 ≤ s.length) (h2 : num s ≤ 65536) (h3 : num s + 8 ≤ s.length) (h4 : num (s.drop (4 + num s)) = sum (bodyG num s)) :
    cutG num sum s0 = ((l ++ [bodyG num s]) ++ (cutG num sum (s.drop (8 + num s))).1, (cutG num sum (s.drop (8 + num s))).2) := by
  rw [h0, cutG_next h h2 h3 h4]; simp
end

def crcN (s : Str) : Nat := (crcB s).toNat
def bodyS (s : Str) : Str := bodyG numS s
def cut (s : Str) : List Str × Str × Int := cutG numS crcN s
theorem numS_app (s t : Str) (hs : 4 ≤ s.length) : numS (s ++ t) = numS s := numS_append hs
theorem cut_short {s : Str} (h : s.length < 4) : cut s = ([], s, 0) := cutG_short h
theorem cut_large {s : Str} (h : 4 ≤ s.length) (h2 : 65536 < numS s) : cut s = ([], [], 40) := cutG_large h h2
theorem cut_wait {s : Str} (h1 : 4 ≤ s.length) (h2 : numS s ≤ 65536) (h : s.length < numS s + 8) : cut s = ([], s, 0) := cutG_wait h1 h2 h
theorem cut_bad {s : Str} (h1 : 4 ≤ s.length) (h2 : numS s ≤ 65536) (h3 : numS s + 8 ≤ s.length) (h4 : numS (s.drop (4 + numS s)) ≠ crcN (bodyS s)) : cut s = ([], [], 90) := cutG_bad h1 h2 h3 h4
theorem cut_next {s : Str} (h1 : 4 ≤ s.length) (h2 : numS s ≤ 65536) (h3 : numS s + 8 ≤ s.length) (h4 : numS (s.drop (4 + numS s)) = crcN (bodyS s)) :
    cut s = (bodyS s :: (cut (s.drop (8 + numS s))).1, (cut (s.drop (8 + numS s))).2) := cutG_next h1 h2 h3 h4
theorem cut_append (t s : Str) (h : (cut s).2.2 = 0) : cut (s ++ t) = ((cut s).1 ++ (cut ((cut s).2.1 ++ t)).1, (cut ((cut s).2.1 ++ t)).2) := cutG_append numS_app t s h
theorem cut_len (s : Str) : (cut s).1.length * 8 ≤ s.length := cutG_len s
theorem cut_rest (s : Str) : (cut s).2.1.length ≤ s.length := cutG_rest s
theorem cut_shut (s : Str) (h : (cut s).2.2 ≠ 0) : (cut s).2.1 = [] := cutG_shut s h
theorem cut_go {s0 s : Str} {l : List Str} (h0 : cut s0 = (l ++ (cut s).1, (cut s).2)) (h : 4 ≤ s.length) (h2 : numS s ≤ 65536) (h3 : numS s + 8 ≤ s.length) (h4 : numS (s.drop (4 + numS s)) = crcN (bodyS s)) :
    cut s0 = ((l ++ [bodyS s]) ++ (cut (s.drop (8 + numS s))).1, (cut (s.drop (8 + numS s))).2) := cutG_go h0 h h2 h3 h4

section
variable {C : Ctx} {H : Heap}

theorem sv_one (l : List Str) : ∀ v ∈ l.map sv, v.oneCell' = true := by
  intro v hv
  obtain ⟨s, _, rfl⟩ := List.mem_map.1 hv
  rfl

theorem iB_ne (n : Nat) (s : Str) : (((n : Int) : Int) != iB (crcB s)) = true ↔ n ≠ crcN s := by
  simp only [bne_iff_ne, ne_eq, iB, crcN, Int.natCast_inj]

theorem ref30_Cut_ok {s : Str} {K : Sl → Int → Int → Heap → Prop} (hl : s.length ≤ 1048576)
    (k : ∀ o H2, OwnF H H2 1 o ((cut s).1.map sv) → K o ((cut s).2.1.length : Int) (cut s).2.2 H2) : c_ref30_Cut C s K H := by
  apply ad_ref30_Cut
  unfold sh_ref30_Cut
  refine ⟨fun x H' => ∃ l : List Str, cut s = (l ++ (cut x.1).1, (cut x.1).2) ∧ x.1.length + l.length * 8 ≤ s.length ∧ OwnF H H' 1 x.2 (l.map sv), fun x _ => x.1.length, ⟨[], by simp, by simp, OwnF.nil H 1⟩, ?_⟩
  rintro ⟨t, o⟩ H' ⟨l, hcut, hlen, ho⟩
  simp only at hcut hlen ho
  have hol : o.len = l.length := by have := ho.own.1; simpa using this.symm
  have done : (cut t).1 = [] → K o ((cut t).2.1.length : Int) (cut t).2.2 H' := fun h0 => by
    have e : (cut s).1 = l := by rw [hcut, h0]; simp
    have := k o H' (by rw [e]; exact ho)
    rw [hcut] at this
    exact this
  refine ift.of (fun h => ?_) (fun h => ?_)
  · have h1 : t.length < 4 := by simp at h; omega
    have := done (by rw [cut_short h1])
    rw [cut_short h1] at this
    exact this
  have h1 : 4 ≤ t.length := by simp at h; omega
  refine ref30_number_ok h1 ?_
  have hn := numS_lt t
  refine ift.of (fun h => ?_) (fun h => ?_)
  · have h2 : 65536 < numS t := by simp at h; omega
    have := done (by rw [cut_large h1 h2])
    rw [cut_large h1 h2] at this
    exact this
  have h2 : numS t ≤ 65536 := by simp at h; omega
  dsimp only
  rw [w_i64 (x := (numS t : Int)) (by omega) (by omega), w_i64 (x := (numS t : Int) + 8) (by omega) (by omega), w_i64 (x := 4 + (numS t : Int)) (by omega) (by omega), w_i64 (x := 8 + (numS t : Int)) (by omega) (by omega)]
  refine ift.of (fun h => ?_) (fun h => ?_)
  · have h3 : t.length < numS t + 8 := by simp at h; omega
    have := done (by rw [cut_wait h1 h2 h3])
    rw [cut_wait h1 h2 h3] at this
    exact this
  have h3 : numS t + 8 ≤ t.length := by simp at h; omega
  refine ⟨_, Heap.le.refl _, by omega, by omega, by omega, _, rfl, by omega, by omega, by omega, _, rfl, ?_⟩
  have e1 : (t.take ((t.length : Int)).toNat).drop ((4 + (numS t : Int))).toNat = t.drop (4 + numS t) := by
    rw [show ((4 + (numS t : Int))).toNat = 4 + numS t by omega, Int.toNat_natCast, List.take_length]
  have e2 : (t.take ((4 + (numS t : Int))).toNat).drop (4 : Int).toNat = bodyS t := by
    rw [show ((4 + (numS t : Int))).toNat = 4 + numS t by omega]; rfl
  have e3 : (t.take ((t.length : Int)).toNat).drop ((8 + (numS t : Int))).toNat = t.drop (8 + numS t) := by
    rw [show ((8 + (numS t : Int))).toNat = 8 + numS t by omega, Int.toNat_natCast, List.take_length]
  rw [e1, e2]
  refine ref30_number_ok (by simp; omega) ⟨Heap.le.refl _, ?_⟩
  refine ref30_Sum_ok (by simp [bodyS, bodyG]; omega) ⟨Heap.le.refl _, ?_⟩
  refine ift.of (fun h => ?_) (fun h => ?_)
  · have h4 : numS (t.drop (4 + numS t)) ≠ crcN (bodyS t) := (iB_ne _ _).1 h
    have := done (by rw [cut_bad h1 h2 h3 h4])
    rw [cut_bad h1 h2 h3 h4] at this
    exact this
  have h4 : numS (t.drop (4 + numS t)) = crcN (bodyS t) := by
    by_cases hh : numS (t.drop (4 + numS t)) = crcN (bodyS t)
    · exact hh
    · have := (iB_ne _ _).2 hh; rw [this] at h; cases h
  refine ⟨by omega, by omega, by omega, _, rfl, ?_⟩
  rw [e2]
  refine apd_ownF (zc := [sv []]) ho rfl (by omega) (by omega) fun r H2 ho2 hr => ?_
  refine ⟨by omega, by omega, by omega, _, rfl, ?_⟩
  rw [e3]
  refine ⟨⟨l ++ [bodyS t], cut_go hcut h1 h2 h3 h4, by simp; omega, by simpa using ho2⟩, by simp; omega⟩

theorem ref30_Same_ok {a b : Sl} {l m : List Str} {K : Bool → Heap → Prop} (ha : rdsl H a (l.map sv)) (hb : rdsl H b (m.map sv)) (hla : a.len = l.length) (hlb : b.len = m.length) (hs : l.length ≤ 1048576)
    (k : K (l == m) H) : c_ref30_Same C a b K H := by
  apply ad_ref30_Same
  unfold sh_ref30_Same
  refine ift.of (fun h => ?_) (fun h => ?_)
  · have : l.length ≠ m.length := by simp at h; omega
    have : (l == m) = false := by simp; rintro rfl; exact this rfl
    rw [this] at k; exact k
  have hlm : l.length = m.length := by simp at h; omega
  refine ⟨fun x H' => ∃ i : Nat, x = i ∧ i ≤ l.length ∧ l.take i = m.take i ∧ H = H', fun x _ => l.length - x.toNat, ⟨0, rfl, Nat.zero_le _, rfl, rfl⟩, ?_⟩
  rintro x _ ⟨i, rfl, hi, heq, rfl⟩
  refine ift.of (fun h => ?_) (fun h => ?_)
  · have hlt : i < l.length := by simp at h; omega
    have hltm : i < m.length := by omega
    refine ix_ldS ha (j := i) rfl (by omega) (x := l[i]) (by simp [hlt]) ?_
    refine ix_ldS hb (j := i) rfl (by omega) (x := m[i]) (by simp [hltm]) ?_
    refine ift.of (fun h => ?_) (fun h => ?_)
    · have hne : l[i] ≠ m[i] := by simpa using h
      have : (l == m) = false := by simp; rintro rfl; exact hne rfl
      rw [this] at k; exact k
    · have he : l[i] = m[i] := by simpa using h
      rw [w_i64 (by omega) (by omega)]
      refine ⟨⟨i + 1, rfl, by omega, ?_, rfl⟩, by dsimp only; omega⟩
      rw [List.take_add_one, List.take_add_one, heq, List.getElem?_eq_getElem hlt, List.getElem?_eq_getElem hltm, he]
  · have hi2 : i = l.length := by simp at h; omega
    subst hi2
    rw [List.take_length, hlm, List.take_length] at heq
    have : (l == m) = true := by simpa using heq
    rw [this] at k; exact k
end
theorem bodyS_eq (t : Str) : bodyS t = (t.drop 4).take (numS t) := by
  unfold bodyS bodyG
  rw [List.drop_take, Nat.add_sub_cancel_left]
theorem bodyS_len {t : Str} (h : numS t + 8 ≤ t.length) : (bodyS t).length = numS t := by
  rw [bodyS_eq, List.length_take, List.length_drop]; omega
theorem crcN_lt (s : Str) : crcN s < 4294967296 := (crcB s).isLt
attribute [irreducible] crcN cut bodyS
end Sx
