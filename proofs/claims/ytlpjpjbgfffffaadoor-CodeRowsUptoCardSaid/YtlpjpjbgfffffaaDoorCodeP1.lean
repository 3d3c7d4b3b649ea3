/-
  The pen of layer 3: what its methods write.
-/
import Derived.Test.YtlpjpjbgfffffaaDoorSh
import Derived.Test.YtlpjpjbgfffffaaDoorSxUse2
set_option linter.unusedVariables false
set_option maxRecDepth 10000
namespace Sx
open Go Go.Proofs

/-- a pen at b, over H0: it holds bs, and turns by t -/
structure PenF (H0 H : Heap) (b : Nat) (bs : Str) (t : UInt8) : Prop where
  le : H0.le H
  nb : H0 b = none
  row : ∃ s : Sl, H b = some (true, .row [slv s, .int .u8 (t.toNat : Int)]) ∧ Own H 1 s (bytesV bs) ∧ Fresh H0 s ∧ ∀ p, s.p = some p → p.1 ≠ b

theorem PenF.down {H1 H0 H : Heap} {b : Nat} {bs : Str} {t : UInt8} (h : PenF H0 H b bs t) (hle : H1.le H0) : PenF H1 H b bs t :=
  ⟨hle.trans h.le, hle.none h.nb, by obtain ⟨s, h1, h2, h3, h4⟩ := h.row; exact ⟨s, h1, h2, h3.le hle, h4⟩⟩

/-- a new block beside it -/
theorem PenF.beside {H0 H : Heap} {b b2 : Nat} {bs : Str} {t : UInt8} {g : GO} {m : Bool} (h : PenF H0 H b bs t) (hn : H b2 = none) : PenF (H0.put b2 g m) (H.put b2 g m) b bs t := by
  obtain ⟨s, h1, h2, h3, h4⟩ := h.row
  have hbb : b ≠ b2 := fun e => by subst e; rw [h1] at hn; cases hn
  refine ⟨h.le.puts _ _ _, by rw [Heap.put_ne _ _ _ hbb]; exact h.nb, s, by rw [Heap.put_ne _ _ _ hbb]; exact h1, h2.le (Heap.le_put hn), fun p hp => ?_, h4⟩
  have hne : p.1 ≠ b2 := fun e => by
    obtain ⟨g', hg⟩ := h2.mine hp
    rw [e, hn] at hg; cases hg
  rw [Heap.put_ne _ _ _ hne]; exact h3 p hp

theorem clone_ok {C : Ctx} {H : Heap} {s : Sl} {a : Str} {K : Sl → Heap → Prop} (hr : rdsl H s (bytesV a)) (hl : s.len = a.length) (hm : a.length ≤ 140737488355328) (hnil : s.p = none → a = []) (k : ∀ r H2, OwnF H H2 1 r (bytesV a) → K r H2) : c_slices_Clone_byte_byte C s K H := by
  apply ad_slices_Clone_byte_byte
  unfold sh_slices_Clone_byte_byte
  refine ift.of (fun h => ?_) (fun h => ?_)
  · have : a = [] := hnil (by simpa [Sl.isNil] using h)
    subst this
    exact k _ _ (OwnF.nil H 1)
  · intro b hb
    refine apS_bytes (a := []) (ownF_empty hb) (rdsl_le (Heap.le_put hb) hr) hl (by simpa using hm) fun r H2 h2 _ => ?_
    exact k r H2 h2

theorem rdsl_nil {H : Heap} {s : Sl} {a : Str} (hr : rdsl H s (bytesV a)) : s.p = none → a = [] := fun h => by
  rcases hr with hr | ⟨_, p, hp, _⟩
  · simpa [bytesV] using hr
  · rw [h] at hp; cases hp

theorem code_behind_ok {C : Ctx} {H : Heap} {s : Sl} {a : Str} {K : Option (Nat × Nat) → Heap → Prop} (hr : rdsl H s (bytesV a)) (hl : s.len = a.length) (hm : a.length ≤ 140737488355328)
    (k : ∀ b H2, PenF H H2 b a 0 → K (some (b, 0)) H2) : c_code_behind C s K H := by
  apply ad_code_behind
  unfold sh_code_behind
  refine clone_ok hr hl hm (rdsl_nil hr) fun r H2 h2 => ?_
  intro b hb
  refine k b _ ⟨h2.le.trans (Heap.le_put hb), h2.le.none hb, r, Heap.put_same .., h2.own.le (Heap.le_put hb), h2.fresh, fun p hp e => ?_⟩
  obtain ⟨g, hg⟩ := h2.own.mine hp
  rw [e, hb] at hg; cases hg

theorem take_snoc_map {s : Str} {i : Nat} (t : UInt8) (h : i < s.length) : (s.take (i + 1)).map (· ^^^ t) = (s.take i).map (· ^^^ t) ++ [s.getD i 0 ^^^ t] := by
  rw [List.take_add_one, getD_some h]; simp

theorem pen_put_ok {C : Ctx} {H0 H : Heap} {b : Nat} {bs cs : Str} {t : UInt8} {l : Sl} {K : Heap → Prop} (h : PenF H0 H b bs t) (hr : rdsl H0 l (bytesV cs)) (hl : l.len = cs.length) (hm : bs.length + cs.length ≤ 140737488355328)
    (k : ∀ H2, PenF H0 H2 b (bs ++ cs.map (· ^^^ t)) t → K H2) : c_code_pen_put C (some (b, 0)) l K H := by
  apply ad_code_pen_put
  unfold sh_code_pen_put
  refine ⟨fun x H' => ∃ i : Nat, x = (i : Int) ∧ i ≤ cs.length ∧ PenF H0 H' b (bs ++ (cs.take i).map (· ^^^ t)) t, fun x _ => cs.length - x.toNat, ⟨0, rfl, Nat.zero_le _, by simpa using h⟩, ?_⟩
  rintro x H' ⟨i, rfl, hi, hp⟩
  refine ift.of (fun hc => ?_) (fun hc => ?_)
  · have hlt : i < cs.length := by simp at hc; omega
    refine ix_ldI (rdsl_le hp.le hr) (j := i) rfl (by omega) (bytes_at hlt) ?_
    obtain ⟨s, h1, h2, h3, h4⟩ := hp.row
    have hsl : s.len = bs.length + i := by have := h2.1; simp [bytesV] at this; omega
    refine ⟨H0.put b (.row [slv s, .int .u8 (t.toNat : Int)]), fun x e hx => ?_, _, rfl, s, by rw [rd_same]; rfl, _, rfl, (t.toNat : Int), by rw [rd_same]; rfl, ?_⟩
    · by_cases hxb : x = b
      · subst hxb; rw [Heap.put_same] at hx; rw [← hx]; exact h1
      · rw [Heap.put_ne _ _ _ hxb] at hx; exact hp.le _ _ hx
    have hle : (H0.put b (.row [slv s, .int .u8 (t.toNat : Int)])).le H' := fun x e hx => by
      by_cases hxb : x = b
      · subst hxb; rw [Heap.put_same] at hx; rw [← hx]; exact h1
      · rw [Heap.put_ne _ _ _ hxb] at hx; exact hp.le _ _ hx
    dsimp only
    rw [xor_u8]
    intro b2 hb2
    refine ⟨hle.trans (Heap.le_put hb2), ?_⟩
    have hown : OwnF (H0.put b (.row [slv s, .int .u8 (t.toNat : Int)])) (H'.put b2 (.row [.int .u8 ((cs.getD i 0 ^^^ t).toNat : Int)])) 1 s (bytesV (bs ++ (cs.take i).map (· ^^^ t))) :=
      ⟨hle.trans (Heap.le_put hb2), h2.le (Heap.le_put hb2), fun p hpp => by rw [Heap.put_ne _ _ _ (h4 p hpp)]; exact h3 p hpp⟩
    refine apS_bytes hown (c := [cs.getD i 0 ^^^ t]) (lit_bytes (s := [cs.getD i 0 ^^^ t]) rfl) rfl (by simp; omega) fun r H3 h5 h6 => ?_
    refine ⟨h5.le, _, rfl, _, h5.le _ _ (Heap.put_same ..), by simp, ?_⟩
    rw [w_i64 (by omega) (by omega)]
    refine ⟨⟨i + 1, by omega, by omega, ?_⟩, by simp; omega⟩
    have hrb : ∀ p, r.p = some p → p.1 ≠ b := fun p hpp e => by have := h5.fresh p hpp; rw [e, Heap.put_same] at this; cases this
    refine ⟨fun x e hx => ?_, hp.nb, r, by rw [Heap.put_same]; rfl, ?_, fun p hpp => ?_, hrb⟩
    · have hxb : x ≠ b := fun e' => by subst e'; rw [hp.nb] at hx; cases hx
      rw [Heap.put_ne _ _ _ hxb]; exact h5.le _ _ (by rw [Heap.put_ne _ _ _ hxb]; exact hx)
    · rw [take_snoc_map t hlt, ← List.append_assoc]
      exact h5.own.but (Heap.but.put _ _ _ _) hrb
    · have := h5.fresh p hpp
      rwa [Heap.put_ne _ _ _ (hrb p hpp)] at this
  · have : i = cs.length := by simp at hc; omega
    subst this
    rw [List.take_length] at hp
    exact k _ hp

/-- bytes that are written out -/
theorem pen_put_lit {C : Ctx} {H0 H : Heap} {b : Nat} {bs cs : Str} {vs : List Value} {t : UInt8} {m : Nat} {K : Heap → Prop} (h : PenF H0 H b bs t) (hv : vs = bytesV cs) (hm0 : m = cs.length) (hm : bs.length + cs.length ≤ 140737488355328)
    (k : ∀ H2, PenF H0 H2 b (bs ++ cs.map (· ^^^ t)) t → K H2) : nw vs (fun b2 H2 => c_code_pen_put C (some (b, 0)) (Sl.of (some (b2, 0)) m m) K H2) H := by
  intro b2 hb2
  subst hm0
  refine pen_put_ok (h.beside hb2) (lit_bytes hv) rfl hm fun H2 h2 => k H2 (h2.down (Heap.le_put (h.le.none hb2)))

theorem pen_flip_ok {C : Ctx} {H0 H : Heap} {b : Nat} {bs : Str} {t : UInt8} {is : Bool} {K : Heap → Prop} (h : PenF H0 H b bs t) (k : ∀ H2, PenF H0 H2 b bs (if is then t ^^^ 255 else t) → K H2) : c_code_pen_flip C (some (b, 0)) is K H := by
  apply ad_code_pen_flip
  unfold sh_code_pen_flip
  cases is with
  | false => exact ift_neg rfl (k H (by simpa using h))
  | true =>
    obtain ⟨s, h1, h2, h3, h4⟩ := h.row
    refine ift_pos rfl ⟨_, rfl, _, by rw [rd_row h1]; rfl, _, rfl, _, h1, by simp, ?_⟩
    have e : bXor .u8 (t.toNat : Int) 255 = ((t ^^^ 255).toNat : Int) := xor_u8 t 255
    rw [e]
    refine k _ ⟨fun x e hx => ?_, h.nb, s, by rw [Heap.put_same]; rfl, h2.but (Heap.but.put _ _ _ _) h4, h3, h4⟩
    have hxb : x ≠ b := fun e' => by subst e'; rw [h.nb] at hx; cases hx
    rw [Heap.put_ne _ _ _ hxb]; exact h.le _ _ hx

/-! how many bits, how many bytes -/
def bl (x : Nat) : Nat := if x = 0 then 0 else Nat.log2 x + 1
theorem bl_lt (x : Nat) : x < 2 ^ bl x := by
  unfold bl
  split
  · subst_vars; decide
  · exact Nat.lt_log2_self
theorem bl_le {x : Nat} (h : x ≠ 0) : 2 ^ (bl x - 1) ≤ x := by
  unfold bl
  rw [if_neg h]
  simpa using Nat.log2_self_le h
theorem bl_of {x n : Nat} (h0 : x < 2 ^ n) (h1 : x ≠ 0 → 2 ^ (n - 1) ≤ x) (h2 : x = 0 → n = 0) : bl x = n := by
  by_cases hx : x = 0
  · rw [h2 hx, hx]; rfl
  · have a := bl_lt x
    have b := bl_le hx
    have c := h1 hx
    have p1 : bl x - 1 < n := (Nat.pow_lt_pow_iff_right (by omega : 1 < 2)).1 (Nat.lt_of_le_of_lt b h0)
    have p2 : n - 1 < bl x := (Nat.pow_lt_pow_iff_right (by omega : 1 < 2)).1 (Nat.lt_of_le_of_lt c a)
    have hb : 0 < bl x := by unfold bl; rw [if_neg hx]; omega
    have hn : 0 < n := by
      rcases Nat.eq_zero_or_pos n with h | h
      · subst h; omega
      · exact h
    omega
theorem bl_shift {x k : Nat} (h : 2 ^ k ≤ x) : bl (x / 2 ^ k) + k = bl x := by
  have hpos : 0 < 2 ^ k := Nat.two_pow_pos k
  have hx : x ≠ 0 := by omega
  have hy : x / 2 ^ k ≠ 0 := by have := Nat.div_pos h hpos; omega
  refine (bl_of (x := x) ?_ (fun _ => ?_) (fun e => absurd e hx)).symm
  · rw [Nat.pow_add]
    have := bl_lt (x / 2 ^ k)
    exact (Nat.div_lt_iff_lt_mul hpos).1 this
  · have h1 := bl_le hy
    have hb : 0 < bl (x / 2 ^ k) := by unfold bl; rw [if_neg hy]; omega
    have e : bl (x / 2 ^ k) + k - 1 = (bl (x / 2 ^ k) - 1) + k := by omega
    rw [e, Nat.pow_add]
    exact (Nat.le_div_iff_mul_le hpos).1 h1
theorem bl_le_of {x n : Nat} (h : x < 2 ^ n) : bl x ≤ n := by
  by_cases hx : x = 0
  · subst hx; simp [bl]
  · have := bl_le hx
    have p := (Nat.pow_lt_pow_iff_right (by omega : 1 < 2)).1 (Nat.lt_of_le_of_lt this h)
    omega

theorem sShr_u64 (n k : Nat) (hk : k ≤ 64) : sShr .u64 (n : Int) (k : Int) = ((n / 2 ^ k : Nat) : Int) := by
  unfold sShr
  have hm : min ((k : Int)).toNat IntKind.u64.bits = k := by simp only [Int.toNat_natCast]; show min k 64 = k; omega
  rw [hm, Int.fdiv_eq_ediv_of_nonneg _ (by exact_mod_cast Nat.zero_le _)]
  norm_cast

def len8 : Str := [0, 1, 2, 2, 3, 3, 3, 3, 4, 4, 4, 4, 4, 4, 4, 4] ++ List.replicate 16 5 ++ List.replicate 32 6 ++ List.replicate 64 7 ++ List.replicate 128 8
theorem len8_ok : ∀ i : Fin 256, len8[i.val]? = some (UInt8.ofNat (bl i.val)) := by decide +kernel

theorem len64_ok {C : Ctx} {H : Heap} {x : Nat} {K : Int → Heap → Prop} (hx : x < 18446744073709551616) (k : K (bl x : Int) H) : c_math_bits_Len64 C (x : Int) K H := by
  apply ad_math_bits_Len64
  unfold sh_math_bits_Len64
  have step : ∀ (s : Nat) (y n : Nat) (J : (Int × Int) → Heap → Prop) (B : Int), B = (2 ^ s : Nat) → s ≤ 32 → y < 18446744073709551616 → n ≤ 56 → bl y + n = bl x →
      (∀ y' n', (y' < 2 ^ s ∨ (y' = y / 2 ^ s ∧ 2 ^ s ≤ y)) → n' ≤ n + s → bl y' + n' = bl x → J ((y' : Int), (n' : Int)) H) →
      ift (decide ((y : Int) ≥ B)) (J ((sShr .u64 (y : Int) (s : Int)), w .i64 ((n : Int) + (s : Int))) H) (J ((y : Int), (n : Int)) H) := by
    intro s y n J B hB hs hy hn he hJ
    subst hB
    refine ift.of (fun h => ?_) (fun h => ?_)
    · have h' : 2 ^ s ≤ y := by have := of_decide_eq_true h; omega
      rw [sShr_u64 y s (by omega), w_i64 (by omega) (by omega)]
      have := hJ (y / 2 ^ s) (n + s) (.inr ⟨rfl, h'⟩) (Nat.le_refl _) (by have := bl_shift h'; omega)
      simpa using this
    · have h' : y < 2 ^ s := by have := of_decide_eq_false h; omega
      exact hJ y n (.inl h') (by omega) he
  refine ⟨fun p H' => ∃ y n : Nat, p = ((y : Int), (n : Int)) ∧ H = H' ∧ y < 4294967296 ∧ n ≤ 32 ∧ bl y + n = bl x, ?_, ?_⟩
  · have := step 32 x 0 (fun p H' => ∃ y n : Nat, p = ((y : Int), (n : Int)) ∧ H = H' ∧ y < 4294967296 ∧ n ≤ 32 ∧ bl y + n = bl x) 4294967296 rfl (by omega) hx (by omega) (by omega) (fun y' n' h1 h2 h3 => ⟨y', n', rfl, rfl, by rcases h1 with h1 | ⟨h1, _⟩ <;> omega, by omega, h3⟩)
    have e : w .i64 ((0 : Nat) + (32 : Nat) : Int) = 32 := w_i64 (by omega) (by omega)
    rw [e] at this
    exact this
  rintro _ _ ⟨y, n, rfl, rfl, hy, hn, he⟩
  refine ⟨fun p H' => ∃ y n : Nat, p = ((y : Int), (n : Int)) ∧ H = H' ∧ y < 65536 ∧ n ≤ 48 ∧ bl y + n = bl x, ?_, ?_⟩
  · exact step 16 y n (fun p H' => ∃ y n : Nat, p = ((y : Int), (n : Int)) ∧ H = H' ∧ y < 65536 ∧ n ≤ 48 ∧ bl y + n = bl x) 65536 rfl (by omega) (by omega) (by omega) he (fun y' n' h1 h2 h3 => ⟨y', n', rfl, rfl, by rcases h1 with h1 | ⟨h1, _⟩ <;> omega, by omega, h3⟩)
  rintro _ _ ⟨y, n, rfl, rfl, hy, hn, he⟩
  refine ⟨fun p H' => ∃ y n : Nat, p = ((y : Int), (n : Int)) ∧ H = H' ∧ y < 256 ∧ n ≤ 56 ∧ bl y + n = bl x, ?_, ?_⟩
  · exact step 8 y n (fun p H' => ∃ y n : Nat, p = ((y : Int), (n : Int)) ∧ H = H' ∧ y < 256 ∧ n ≤ 56 ∧ bl y + n = bl x) 256 rfl (by omega) (by omega) (by omega) he (fun y' n' h1 h2 h3 => ⟨y', n', rfl, rfl, by rcases h1 with h1 | ⟨h1, _⟩ <;> omega, by omega, h3⟩)
  rintro _ _ ⟨y, n, rfl, rfl, hy, hn, he⟩
  have ht := len8_ok ⟨y, hy⟩
  have hb8 : bl y ≤ 8 := bl_le_of hy
  dsimp only at ht ⊢
  rw [w_u8 (by omega) (by omega)]
  refine ⟨UInt8.ofNat (bl y), by omega, ?_, ?_⟩
  · rw [Int.toNat_natCast, ← ht]; rfl
  · have e : (UInt8.ofNat (bl y)).toNat = bl y := by rw [UInt8.toNat_ofNat']; omega
    dsimp only
    rw [e, w_i64 (x := (bl y : Int)) (by omega) (by omega), w_i64 (by omega) (by omega)]
    have : (n : Int) + (bl y : Int) = (bl x : Int) := by omega
    rw [this]; exact k
end Sx
