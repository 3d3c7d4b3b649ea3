/-
  Numbers, counts, texts, truth values: the bytes that are written.
-/
import Derived.Test.YtlpjpjbgfffffaaDoorCodeP1
set_option linter.unusedVariables false
set_option maxRecDepth 10000
namespace Sx
open Go Go.Proofs

/-- k bytes of a number, the highest first -/
def be : Nat → Nat → Str
  | 0, _ => []
  | k + 1, u => UInt8.ofNat (u / 2 ^ (8 * k)) :: be k u
theorem be_len : ∀ k u, (be k u).length = k
  | 0, _ => rfl
  | k + 1, u => by simp [be, be_len k u]
/-- how many bytes a number has -/
def kl (u : Nat) : Nat := (bl u + 7) / 8
theorem kl_le {u : Nat} (h : u < 18446744073709551616) : kl u ≤ 8 := by have : bl u ≤ 64 := bl_le_of (n := 64) h; unfold kl; omega
theorem kl_lt (u : Nat) : u < 2 ^ (8 * kl u) := Nat.lt_of_lt_of_le (bl_lt u) (Nat.pow_le_pow_right (by omega) (by unfold kl; omega))
theorem kl_ge {u : Nat} (h : u ≠ 0) : 2 ^ (8 * (kl u - 1)) ≤ u := Nat.le_trans (Nat.pow_le_pow_right (by omega) (by unfold kl; omega)) (bl_le h)
theorem kl_pos {u : Nat} (h : u ≠ 0) : 0 < kl u := by have : 0 < bl u := by { unfold bl; rw [if_neg h]; omega }; unfold kl; omega
theorem kl_zero : kl 0 = 0 := rfl
def numB (first : Nat) (u : Nat) : Str := UInt8.ofNat (first + kl u) :: be (kl u) u

theorem w_u8_nat (n : Nat) : w .u8 (n : Int) = ((UInt8.ofNat n).toNat : Int) := by
  rw [w_u8_mod, UInt8.toNat_ofNat']; norm_cast

section
variable {C : Ctx} {H0 H : Heap}

theorem pen_number_ok {b : Nat} {bs : Str} {t : UInt8} {first u : Nat} {K : Heap → Prop} (h : PenF H0 H b bs t) (hf : first ≤ 128) (hu : u < 18446744073709551616) (hm : bs.length + 9 ≤ 140737488355328)
    (k : ∀ H2, PenF H0 H2 b (bs ++ (numB first u).map (· ^^^ t)) t → K H2) : c_code_pen_number C (some (b, 0)) (first : Int) (u : Int) K H := by
  apply ad_code_pen_number
  unfold sh_code_pen_number
  refine len64_ok hu ?_
  have hb64 : bl u ≤ 64 := bl_le_of (n := 64) hu
  have hk8 := kl_le hu
  have e1 : w .i64 (Int.tdiv (w .i64 ((bl u : Int) + 7)) 8) = (kl u : Int) := by
    rw [w_i64 (x := (bl u : Int) + 7) (by omega) (by omega), Int.tdiv_eq_ediv_of_nonneg (by omega)]
    have : ((bl u : Int) + 7) / 8 = (kl u : Int) := by unfold kl; omega
    rw [this]; exact w_i64 (by omega) (by omega)
  rw [e1]
  have e2 : w .u8 ((first : Int) + w .u8 (kl u : Int)) = ((UInt8.ofNat (first + kl u)).toNat : Int) := by
    rw [w_u8 (x := (kl u : Int)) (by omega) (by omega)]
    have : (first : Int) + (kl u : Int) = ((first + kl u : Nat) : Int) := by omega
    rw [this]; exact w_u8_nat _
  rw [e2]
  refine pen_put_lit h (cs := [UInt8.ofNat (first + kl u)]) rfl rfl (by simp; omega) fun H2 h2 => ?_
  refine ⟨fun x H' => ∃ j : Nat, x = (j : Int) ∧ j ≤ kl u ∧ ∃ bs', PenF H0 H' b bs' t ∧ bs'.length + j = bs.length + 1 + kl u ∧ bs' ++ (be j u).map (· ^^^ t) = bs ++ (numB first u).map (· ^^^ t), fun x _ => x.toNat, ⟨kl u, rfl, Nat.le_refl _, _, h2, by simp <;> omega, by simp [numB]⟩, ?_⟩
  rintro x H' ⟨j, rfl, hj, bs', hp, hlen, heq⟩
  refine ift.of (fun hc => ?_) (fun hc => ?_)
  · have hj0 : 0 < j := by have := of_decide_eq_true hc; omega
    obtain ⟨j, rfl⟩ : ∃ i, j = i + 1 := ⟨j - 1, by omega⟩
    have e3 : w .i64 (((j + 1 : Nat) : Int) - 1) = (j : Int) := by rw [w_i64 (by omega) (by omega)]; omega
    have e4 : w .i64 (8 * (j : Int)) = ((8 * j : Nat) : Int) := by rw [w_i64 (by omega) (by omega)]; omega
    rw [e3, e4, sShr_u64 u (8 * j) (by omega), w_u8_nat]
    refine ⟨by omega, ?_⟩
    refine pen_put_lit hp (cs := [UInt8.ofNat (u / 2 ^ (8 * j))]) rfl rfl (by simp; omega) fun H3 h3 => ?_
    refine ⟨⟨j, rfl, by omega, _, h3, by simp; omega, ?_⟩, by dsimp only; omega⟩
    rw [← heq]; simp [be]
  · have hj0 : j = 0 := by have := of_decide_eq_false hc; omega
    subst hj0
    simp only [be, List.map_nil, List.append_nil] at heq
    subst heq
    exact k _ hp

theorem bnot_i64 {n : Int} (h0 : -9223372036854775808 ≤ n) (h1 : n ≤ 9223372036854775807) : bXor .i64 (-1) n = -1 - n := by
  show IntKind.i64.wrap (((BitVec.ofInt 64 (-1) ^^^ BitVec.ofInt 64 n : BitVec 64).toNat : Nat) : Int) = _
  have e : BitVec.ofInt 64 (-1) = BitVec.allOnes 64 := rfl
  rw [e, BitVec.allOnes_xor]
  have h2 := w_i64_of_bv (~~~ BitVec.ofInt 64 n)
  have hx := i64_ofInt h0 h1
  generalize BitVec.ofInt 64 n = x at *
  have h3 : (~~~ x).toInt = -1 - x.toInt := by
    have hl := x.isLt
    rw [BitVec.toInt_eq_toNat_cond, BitVec.toInt_eq_toNat_cond, BitVec.toNat_not]
    split <;> split <;> omega
  rw [hx] at h3
  exact h2.trans h3

/-- a number's bytes -/
def Nm (n : Int) : Str := if n < 0 then (numB 128 (-1 - n).toNat).map (· ^^^ 255) else numB 128 n.toNat
def esc (s : Str) : Str := s.flatMap fun c => if c = 0 then [0, 255] else [c]
def Tx (s : Str) : Str := esc s ++ [0, 0]

theorem pen_num_ok {b : Nat} {bs : Str} {t : UInt8} {n : Int} {K : Heap → Prop} (h : PenF H0 H b bs t) (h0 : -9223372036854775808 ≤ n) (h1 : n ≤ 9223372036854775807) (hm : bs.length + 9 ≤ 140737488355328)
    (k : ∀ H2, PenF H0 H2 b (bs ++ (Nm n).map (· ^^^ t)) t → K H2) : c_code_pen_num C (some (b, 0)) n K H := by
  apply ad_code_pen_num
  unfold sh_code_pen_num
  by_cases hn : n < 0
  · refine ⟨fun x H' => x = -1 - n ∧ H = H', ift_pos (decide_eq_true hn) ⟨bnot_i64 h0 h1, rfl⟩, ?_⟩
    rintro x _ ⟨rfl, rfl⟩
    refine pen_flip_ok h fun H2 h2 => ?_
    rw [decide_eq_true hn, if_pos rfl] at h2
    obtain ⟨u, hu⟩ := Int.eq_ofNat_of_zero_le (show 0 ≤ -1 - n by omega)
    rw [hu, w_u64 (by omega) (by omega)]
    refine pen_number_ok (first := 128) h2 (by omega) (by omega) hm fun H3 h3 => ?_
    refine pen_flip_ok h3 fun H4 h4 => k H4 ?_
    rw [decide_eq_true hn, if_pos rfl] at h4
    have e : t ^^^ 255 ^^^ 255 = t := by rw [UInt8.xor_assoc]; simp
    rw [e] at h4
    unfold Nm
    rw [if_pos hn, List.map_map]
    have e2 : (-1 - n).toNat = u := by omega
    rw [e2]
    have e3 : ((fun x => x ^^^ t) ∘ fun x : UInt8 => x ^^^ 255) = fun x => x ^^^ (t ^^^ 255) := by
      funext x; simp only [Function.comp]; rw [UInt8.xor_assoc, UInt8.xor_comm 255 t]
    rw [e3]; exact h4
  · refine ⟨fun x H' => x = n ∧ H = H', ift_neg (decide_eq_false hn) ⟨rfl, rfl⟩, ?_⟩
    rintro x _ ⟨rfl, rfl⟩
    refine pen_flip_ok h fun H2 h2 => ?_
    rw [decide_eq_false hn, if_neg (by decide)] at h2
    obtain ⟨u, rfl⟩ := Int.eq_ofNat_of_zero_le (show 0 ≤ x by omega)
    rw [w_u64 (by omega) (by omega)]
    refine pen_number_ok (first := 128) h2 (by omega) (by omega) hm fun H3 h3 => ?_
    refine pen_flip_ok h3 fun H4 h4 => k H4 ?_
    rw [decide_eq_false hn, if_neg (by decide)] at h4
    unfold Nm
    rw [if_neg hn]; exact h4

theorem esc_cons (c : UInt8) (s : Str) : esc (c :: s) = (if c = 0 then [0, 255] else [c]) ++ esc s := rfl
theorem esc_take {s : Str} {i : Nat} (h : i < s.length) : esc (s.take (i + 1)) = esc (s.take i) ++ (if s.getD i 0 = 0 then [0, 255] else [s.getD i 0]) := by
  rw [List.take_add_one, getD_some h]
  simp [esc]
theorem esc_len (s : Str) : (esc s).length ≤ 2 * s.length := by
  induction s with
  | nil => simp [esc]
  | cons c s ih => rw [esc_cons]; simp only [List.length_append, List.length_cons]; split <;> simp <;> omega

theorem pen_text_ok {b : Nat} {bs : Str} {t : UInt8} {s : Str} {K : Heap → Prop} (h : PenF H0 H b bs t) (hm : bs.length + 2 * s.length + 2 ≤ 140737488355328)
    (k : ∀ H2, PenF H0 H2 b (bs ++ (Tx s).map (· ^^^ t)) t → K H2) : c_code_pen_text C (some (b, 0)) s K H := by
  apply ad_code_pen_text
  unfold sh_code_pen_text
  refine ⟨fun x H' => ∃ i : Nat, x = (i : Int) ∧ i ≤ s.length ∧ PenF H0 H' b (bs ++ (esc (s.take i)).map (· ^^^ t)) t, fun x _ => s.length - x.toNat, ⟨0, rfl, Nat.zero_le _, by simpa [esc] using h⟩, ?_⟩
  rintro x H' ⟨i, rfl, hi, hp⟩
  have hel := esc_len (s.take i)
  have htl : (s.take i).length = i := by simp; omega
  refine ift.of (fun hc => ?_) (fun hc => ?_)
  · have hlt : i < s.length := by simpa using hc
    refine ⟨fun _ H2 => PenF H0 H2 b (bs ++ (esc (s.take (i + 1))).map (· ^^^ t)) t, ?_, fun _ H2 h2 => ?_⟩
    · refine ⟨s.getD i 0, by omega, getD_some hlt, ?_⟩
      refine pen_put_lit hp (cs := [s.getD i 0]) rfl rfl (by simp; omega) fun H2 h2 => ?_
      refine ⟨s.getD i 0, by omega, getD_some hlt, ?_⟩
      rw [esc_take hlt]
      refine ift.of (fun h0 => ?_) (fun h0 => ?_)
      · have hz : s.getD i 0 = 0 := by
          have : (s.getD i 0).toNat = 0 := by simpa using h0
          exact UInt8.toNat_inj.1 this
        refine pen_put_lit h2 (cs := [255]) rfl rfl (by simp; omega) fun H3 h3 => ?_
        rw [hz] at h3 ⊢
        rw [if_pos rfl]
        simpa using h3
      · have hz : s.getD i 0 ≠ 0 := fun e => by rw [e] at h0; simp at h0
        rw [if_neg hz]
        simpa using h2
    · rw [w_i64 (by omega) (by omega)]
      exact ⟨⟨i + 1, by omega, by omega, h2⟩, by simp; omega⟩
  · have : i = s.length := by have := of_decide_eq_false hc; omega
    subst this
    rw [List.take_length] at hp hel
    refine pen_put_lit hp (cs := [0, 0]) rfl rfl (by simp; omega) fun H2 h2 => k H2 ?_
    unfold Tx
    simpa using h2

/-- the pen's bytes, taken out -/
theorem PenF.take {b : Nat} {bs : Str} {t : UInt8} (h : PenF H0 H b bs t) : ∃ s : Sl, rd H (b, 0) = some (slv s) ∧ OwnF H0 H 1 s (bytesV bs) := by
  obtain ⟨s, h1, h2, h3, h4⟩ := h.row
  exact ⟨s, by rw [rd_row h1]; rfl, h.le, h2, h3⟩

theorem map_xor_zero (s : Str) : s.map (· ^^^ 0) = s := by simp

theorem code_Num_ok {s : Sl} {a : Str} {n : Int} {K : Sl → Heap → Prop} (hr : rdsl H s (bytesV a)) (hl : s.len = a.length) (h0 : -9223372036854775808 ≤ n) (h1 : n ≤ 9223372036854775807) (hm : a.length + 9 ≤ 140737488355328)
    (k : ∀ r H2, OwnF H H2 1 r (bytesV (a ++ Nm n)) → K r H2) : c_code_Num C s n K H := by
  apply ad_code_Num
  unfold sh_code_Num
  refine code_behind_ok hr hl (by omega) fun b H2 h2 => ?_
  refine pen_num_ok h2 h0 h1 hm fun H3 h3 => ?_
  rw [map_xor_zero] at h3
  obtain ⟨r, h4, h5⟩ := h3.take
  exact ⟨_, rfl, r, h4, k r H3 h5⟩

/-- a count's bytes -/
def Ct (n : Int) : Str := if 0 ≤ n ∧ n ≤ 2147483647 then numB 0 n.toNat else []

theorem code_Count_ok {s : Sl} {a : Str} {n : Int} {K : Sl → Heap → Prop} (hr : rdsl H s (bytesV a)) (hl : s.len = a.length) (hm : a.length + 9 ≤ 140737488355328)
    (k : ∀ r H2, OwnF H H2 1 r (bytesV (a ++ Ct n)) → K r H2) : c_code_Count C s n K H := by
  apply ad_code_Count
  unfold sh_code_Count
  refine code_behind_ok hr hl (by omega) fun b H2 h2 => ?_
  refine ⟨fun _ H3 => PenF H H3 b (a ++ Ct n) 0, ?_, fun _ H3 h3 => ?_⟩
  · refine ift.of (fun hc => ?_) (fun hc => ?_)
    · simp only [Bool.and_eq_true, decide_eq_true_eq] at hc
      obtain ⟨u, rfl⟩ := Int.eq_ofNat_of_zero_le hc.1
      rw [w_u64 (by omega) (by omega)]
      refine pen_number_ok (first := 0) h2 (by omega) (by omega) hm fun H3 h3 => ?_
      rw [map_xor_zero] at h3
      unfold Ct
      rw [if_pos (by omega)]; exact h3
    · have hc : ¬ (0 ≤ n ∧ n ≤ 2147483647) := fun hh => by simp [hh.1, hh.2] at hc
      unfold Ct
      rw [if_neg hc, List.append_nil]; exact h2
  · obtain ⟨r, h4, h5⟩ := h3.take
    exact ⟨_, rfl, r, h4, k r H3 h5⟩

theorem code_Str_ok {s : Sl} {a u : Str} {K : Sl → Heap → Prop} (hr : rdsl H s (bytesV a)) (hl : s.len = a.length) (hm : a.length + 2 * u.length + 2 ≤ 140737488355328)
    (k : ∀ r H2, OwnF H H2 1 r (bytesV (a ++ Tx u)) → K r H2) : c_code_Str C s u K H := by
  apply ad_code_Str
  unfold sh_code_Str
  refine code_behind_ok hr hl (by omega) fun b H2 h2 => ?_
  refine pen_text_ok h2 hm fun H3 h3 => ?_
  rw [map_xor_zero] at h3
  obtain ⟨r, h4, h5⟩ := h3.take
  exact ⟨_, rfl, r, h4, k r H3 h5⟩

theorem code_Flag_ok {s : Sl} {a : Str} {v : Bool} {K : Sl → Heap → Prop} (hr : rdsl H s (bytesV a)) (hl : s.len = a.length) (hm : a.length + 1 ≤ 140737488355328)
    (k : ∀ r H2, OwnF H H2 1 r (bytesV (a ++ [if v then 1 else 0])) → K r H2) : c_code_Flag C s v K H := by
  apply ad_code_Flag
  unfold sh_code_Flag
  refine code_behind_ok hr hl (by omega) fun b H2 h2 => ?_
  refine ⟨fun _ H3 => PenF H H3 b (a ++ [if v then 1 else 0]) 0, ?_, fun _ H3 h3 => ?_⟩
  · cases v with
    | true => exact ift_pos rfl (pen_put_lit h2 (cs := [1]) rfl rfl (by simpa using hm) fun H3 h3 => by simpa using h3)
    | false => exact ift_neg rfl (pen_put_lit h2 (cs := [0]) rfl rfl (by simpa using hm) fun H3 h3 => by simpa using h3)
  · obtain ⟨r, h4, h5⟩ := h3.take
    exact ⟨_, rfl, r, h4, k r H3 h5⟩
end
end Sx
