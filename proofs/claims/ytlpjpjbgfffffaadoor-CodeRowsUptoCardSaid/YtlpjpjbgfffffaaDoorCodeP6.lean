/-
  Plain laws of layer 3's bytes: numbers, counts, texts stand as their bytes do; how long they are.
-/
import Derived.Test.YtlpjpjbgfffffaaDoorCodeP5
set_option linter.unusedVariables false
set_option linter.unusedSimpArgs false
set_option maxRecDepth 10000
namespace Sx
open Go Go.Proofs

/-- less at a place that both have -/
inductive Lt : Str → Str → Prop
  | head {c d : UInt8} {s t : Str} (h : c < d) : Lt (c :: s) (d :: t)
  | tail {c : UInt8} {s t : Str} (h : Lt s t) : Lt (c :: s) (c :: t)

theorem Lt.app {s t : Str} (h : Lt s t) (x y : Str) : Lt (s ++ x) (t ++ y) := by
  induction h with
  | head h => exact .head h
  | tail _ ih => exact .tail ih
theorem Lt.pre (p : Str) {s t : Str} (h : Lt s t) : Lt (p ++ s) (p ++ t) := by
  induction p with
  | nil => exact h
  | cons c p ih => exact .tail ih
theorem Lt.cmp {s t : Str} (h : Lt s t) : cmpS s t = -1 ∧ cmpS t s = 1 := by
  induction h with
  | head h => simp [cmpS, h, u8_asym h]
  | tail _ ih => simp [cmpS, u8_irr, ih]

theorem xor255 : ∀ c : UInt8, (c ^^^ 255).toNat = 255 - c.toNat := by
  intro c
  have : ∀ i : Fin 256, ((UInt8.ofNat i.val) ^^^ 255).toNat = 255 - (UInt8.ofNat i.val).toNat := by decide +kernel
  have h := this ⟨c.toNat, u8_lt c⟩
  simpa using h
theorem Lt.flip {s t : Str} (h : Lt s t) : Lt (t.map (· ^^^ 255)) (s.map (· ^^^ 255)) := by
  induction h with
  | @head c d s t h =>
    refine .head ?_
    have h1 : c.toNat < d.toNat := h
    have := u8_lt c; have := u8_lt d
    show (d ^^^ 255).toNat < (c ^^^ 255).toNat
    rw [xor255, xor255]; omega
  | tail _ ih => exact .tail ih

theorem mod_split (n k : Nat) : n % 2 ^ (8 * (k + 1)) = (n / 2 ^ (8 * k) % 256) * 2 ^ (8 * k) + n % 2 ^ (8 * k) := by
  have e : 2 ^ (8 * (k + 1)) = 2 ^ (8 * k) * 256 := by rw [show 8 * (k + 1) = 8 * k + 8 by omega, Nat.pow_add]
  rw [e, Nat.mod_mul, Nat.add_comm, Nat.mul_comm (2 ^ (8 * k))]

theorem be_lt : ∀ (k n m : Nat), n % 2 ^ (8 * k) < m % 2 ^ (8 * k) → Lt (be k n) (be k m)
  | 0, n, m, h => by simp [Nat.mod_one] at h
  | k + 1, n, m, h => by
    rw [mod_split, mod_split m] at h
    have hp : 0 < 2 ^ (8 * k) := Nat.two_pow_pos _
    have h1 := Nat.mod_lt n hp
    have h2 := Nat.mod_lt m hp
    by_cases he : n / 2 ^ (8 * k) % 256 = m / 2 ^ (8 * k) % 256
    · rw [he] at h
      have hb : UInt8.ofNat (n / 2 ^ (8 * k)) = UInt8.ofNat (m / 2 ^ (8 * k)) := UInt8.toNat_inj.1 (by rw [UInt8.toNat_ofNat', UInt8.toNat_ofNat']; exact he)
      simp only [be]
      rw [hb]
      exact .tail (be_lt k n m (by omega))
    · refine .head ?_
      show (UInt8.ofNat _).toNat < (UInt8.ofNat _).toNat
      rw [UInt8.toNat_ofNat', UInt8.toNat_ofNat']
      rcases Nat.lt_or_ge (n / 2 ^ (8 * k) % 256) (m / 2 ^ (8 * k) % 256) with hlt | hge
      · exact hlt
      · exfalso
        have h3 : (m / 2 ^ (8 * k) % 256 + 1) * 2 ^ (8 * k) ≤ (n / 2 ^ (8 * k) % 256) * 2 ^ (8 * k) := Nat.mul_le_mul_right _ (by omega)
        rw [Nat.add_mul] at h3
        omega

theorem bl_mono {n m : Nat} (h : n ≤ m) : bl n ≤ bl m := bl_le_of (Nat.lt_of_le_of_lt h (bl_lt m))
theorem kl_mono {n m : Nat} (h : n ≤ m) : kl n ≤ kl m := by have := bl_mono h; unfold kl; omega

theorem numB_lt {f n m : Nat} (hf : f ≤ 128) (hm : m < 18446744073709551616) (h : n < m) : Lt (numB f n) (numB f m) := by
  have h1 := kl_mono (Nat.le_of_lt h)
  have h2 := kl_le hm
  unfold numB
  by_cases he : kl n = kl m
  · rw [he]
    refine .tail (be_lt _ _ _ ?_)
    have a := kl_lt m
    rw [Nat.mod_eq_of_lt a, Nat.mod_eq_of_lt (by omega)]
    exact h
  · refine .head ?_
    show (UInt8.ofNat _).toNat < (UInt8.ofNat _).toNat
    rw [UInt8.toNat_ofNat', UInt8.toNat_ofNat']; omega

theorem Nm_lt {n m : Int} (h0 : -9223372036854775808 ≤ n) (h1 : m ≤ 9223372036854775807) (h : n < m) : Lt (Nm n) (Nm m) := by
  unfold Nm
  by_cases hn : n < 0
  · rw [if_pos hn]
    by_cases hm : m < 0
    · rw [if_pos hm]
      exact (numB_lt (by omega) (by omega) (by omega)).flip
    · rw [if_neg hm]
      have k1 := kl_le (u := (-1 - n).toNat) (by omega)
      have k2 := kl_le (u := m.toNat) (by omega)
      unfold numB
      refine .head ?_
      show (_ ^^^ 255 : UInt8).toNat < (UInt8.ofNat _).toNat
      rw [xor255, UInt8.toNat_ofNat', UInt8.toNat_ofNat']; omega
  · rw [if_neg hn, if_neg (by omega)]
    exact numB_lt (by omega) (by omega) (by omega)

theorem Ct_lt {n m : Nat} (hm : m ≤ 2147483647) (h : n < m) : Lt (Ct n) (Ct m) := by
  unfold Ct
  rw [if_pos (by omega), if_pos (by omega)]
  exact numB_lt (by omega) (by omega) (by simpa using h)

theorem Tx_cons (c : UInt8) (s : Str) : Tx (c :: s) = (if c = 0 then [0, 255] else [c]) ++ Tx s := by simp [Tx, esc_cons]
theorem pos_of_ne {c : UInt8} (h : c ≠ 0) : (0 : UInt8) < c := by
  rcases u8_tri 0 c with h1 | h1 | h1
  · exact h1
  · exact absurd h1 (by show ¬ c.toNat < (0 : UInt8).toNat; exact Nat.not_lt_zero _)
  · exact absurd h1.symm h
theorem Tx_lt : ∀ s t : Str, cmpS s t < 0 → Lt (Tx s) (Tx t)
  | [], [], h => by simp [cmpS] at h
  | [], d :: t, _ => by
    rw [Tx_cons]
    by_cases hd : d = 0
    · rw [if_pos hd]; exact .tail (.head (by decide))
    · rw [if_neg hd]; exact .head (pos_of_ne hd)
  | _ :: _, [], h => by simp [cmpS] at h
  | c :: s, d :: t, h => by
    rw [Tx_cons, Tx_cons]
    simp only [cmpS] at h
    rcases u8_tri c d with h1 | h1 | rfl
    · have hd : d ≠ 0 := fun e => by subst e; exact absurd h1 (by show ¬ c.toNat < (0 : UInt8).toNat; exact Nat.not_lt_zero _)
      rw [if_neg hd]
      by_cases hc : c = 0
      · rw [if_pos hc]; exact .head (pos_of_ne hd)
      · rw [if_neg hc]; exact .head h1
    · rw [if_neg (u8_asym h1), if_pos h1] at h; omega
    · rw [if_neg (u8_irr c), if_neg (u8_irr c)] at h
      exact (Tx_lt s t h).pre _

theorem cmpS_anti : ∀ s t : Str, cmpS t s = - cmpS s t
  | [], [] => rfl
  | [], _ :: _ => rfl
  | _ :: _, [] => rfl
  | a :: s, b :: t => by
    simp only [cmpS]
    rcases u8_tri a b with h | h | rfl
    · rw [if_neg (u8_asym h), if_pos h, if_pos h]; rfl
    · rw [if_pos h, if_neg (u8_asym h), if_pos h]
    · simp only [if_neg (u8_irr a)]; exact cmpS_anti s t

/-! lengths -/
theorem numB_len (f u : Nat) : (numB f u).length = 1 + kl u := by simp [numB, be_len]; omega
theorem Nm_len {n : Int} (h0 : -9223372036854775808 ≤ n) (h1 : n ≤ 9223372036854775807) : 1 ≤ (Nm n).length ∧ (Nm n).length ≤ 9 := by
  unfold Nm
  split
  · rw [List.length_map, numB_len]; have := kl_le (u := (-1 - n).toNat) (by omega); omega
  · rw [numB_len]; have := kl_le (u := n.toNat) (by omega); omega
theorem flip_flip (s : Str) : (s.map (· ^^^ 255)).map (· ^^^ 255) = s := by
  rw [List.map_map]
  have : ((fun x : UInt8 => x ^^^ 255) ∘ fun x => x ^^^ 255) = id := by funext x; simp [UInt8.xor_assoc]
  rw [this, List.map_id]
theorem Nm_turn (n : Int) : Nm (-1 - n) = (Nm n).map (· ^^^ 255) := by
  unfold Nm
  by_cases hn : n < 0
  · rw [if_pos hn, if_neg (by omega), flip_flip]
  · rw [if_neg hn, if_pos (by omega)]
    have : (-1 - (-1 - n)).toNat = n.toNat := by omega
    rw [this]
theorem Ct_len {n : Nat} (h : n ≤ 2147483647) : (Ct n).length = 1 + kl n := by
  unfold Ct; rw [if_pos (by omega), numB_len]; simp
theorem kl_le4 {n : Nat} (h : n ≤ 2147483647) : kl n ≤ 4 := by have : bl n ≤ 31 := bl_le_of (n := 31) (by omega); unfold kl; omega
def zc (s : Str) : Nat := (s.filter (· == 0)).length
theorem esc_length : ∀ s : Str, (esc s).length = s.length + zc s
  | [] => rfl
  | c :: s => by
    rw [esc_cons, List.length_append, esc_length s]
    unfold zc
    by_cases h : c = 0
    · simp [h]; omega
    · simp [h]; omega
end Sx
