/-
  Texts of this family, one behind the other: CodeP1, CodeP2, CodeP3, CodeP4, CodeP5, CodeP6, CodeV1, CodeV2, CodeV3, CodeV4, ValN2, Ix2, Ix1, Ix3, Ix4, Ix5, Ix6, Ix7, Ix8, Ix9, IxS1, IxS2, IxT, IxJ, IxN, IxL, IxM, IxW, IxV, IxU, IxQ, IxR1, IxR2, IxC, IxZ, IxF, IxK1, IxP1, IxP2, IxP3.
-/
import Derived.Test.YtjafihegefejdaaGreatDoorAP3
import Derived.Lib.ItoaNum
import Derived.Shelf.SlSortCmp.Kit1
import Derived.Lib.ItoaLen
noncomputable section
set_option linter.unusedVariables false
set_option linter.unusedSimpArgs false
set_option maxRecDepth 10000
namespace Sx
section
open Go Go.Proofs
/-- a pen at b, over H0: it holds bs, and turns by t -/
structure PenF (H0 H : Heap) (b : Nat) (bs : Str) (t : UInt8) : Prop where
 le : H0.le H
 nb : H0 b = none
 row : ∃ s : Sl, H b = some (true, .row [slv s, .int .u8 (t.toNat : Int)]) ∧ Own H 1 s (bytesV bs) ∧ Fresh H0 s ∧ ∀ p, s.p = some p → p.1 ≠ b
theorem PenF.down {H1 H0 H : Heap} {b : Nat} {bs : Str} {t : UInt8} (h : PenF H0 H b bs t) (hle : H1.le H0) : PenF H1 H b bs t :=
 ⟨hle.trans h.le, hle.none h.nb, by obtain ⟨s, h1, h2, h3, h4⟩ := h.row; exact ⟨s, h1, h2, h3.le hle, h4⟩⟩
/-- a new block beside it -/
theorem PenF.beside {H0 H : Heap} {b b2 : Nat} {bs : Str} {t : UInt8} {g : GO} {m : Bool} (h : PenF H0 H b bs t) (hn : H b2 = none) : PenF (H0.put b2 g m) (H.put b2 g m) b bs t := by
 obtain ⟨s, h1, h2, h3, h4⟩ := h.row
 have hbb : b ≠ b2 := fun e => by subst e; rw [h1] at hn; cases hn
 refine ⟨h.le.puts _ _ _, by rw [Heap.put_ne _ _ _ hbb]; exact h.nb, s, by rw [Heap.put_ne _ _ _ hbb]; exact h1, h2.le (Heap.le_put hn), fun p hp => ?_, h4⟩
 have hne : p.1 ≠ b2 := fun e => by
  obtain ⟨g', hg⟩ := h2.mine hp
  rw [e, hn] at hg; cases hg
 rw [Heap.put_ne _ _ _ hne]; exact h3 p hp
theorem QlX {C : Ctx} {H : Heap} {s : Sl} {a : Str} {K : Sl → Heap → Prop} (hr : rdsl H s (bytesV a)) (hl : s.len = a.length) (hm : a.length ≤ 140737488355328) (hnil : s.p = none → a = []) (k : ∀ r H2, OwnF H H2 1 r (bytesV a) → K r H2) : Qag C s K H := by
 apply QcT
 unfold Qa0
 refine ift.of (fun h => ?_) (fun h => ?_)
 ·have : a = [] := hnil (by simpa [Sl.isNil] using h)
  subst this
  exact k _ _ (OwnF.nil H 1)
 ·intro b hb
  refine Qjl (a := []) (QkL hb) (QaY (Heap.le_put hb) hr) hl (by simpa using hm) fun r H2 h2 _ => ?_
  exact k r H2 h2
theorem Qmr {H : Heap} {s : Sl} {a : Str} (hr : rdsl H s (bytesV a)) : s.p = none → a = [] := fun h => by
 rcases hr with hr | ⟨_, p, hp, _⟩
 ·simpa [bytesV] using hr
 ·rw [h] at hp; cases hp
theorem QhZ {C : Ctx} {H : Heap} {s : Sl} {a : Str} {K : Option (Nat × Nat) → Heap → Prop} (hr : rdsl H s (bytesV a)) (hl : s.len = a.length) (hm : a.length ≤ 140737488355328)
 (k : ∀ b H2, PenF H H2 b a 0 → K (some (b, 0)) H2) : Qdy C s K H := by
 apply QhM
 unfold QeS
 refine QlX hr hl hm (Qmr hr) fun r H2 h2 => ?_
 intro b hb
 refine k b _ ⟨h2.le.trans (Heap.le_put hb), h2.le.none hb, r, Heap.put_same .., h2.own.le (Heap.le_put hb), h2.fresh, fun p hp e => ?_⟩
 obtain ⟨g, hg⟩ := h2.own.mine hp
 rw [e, hb] at hg; cases hg
theorem Qi8 {s : Str} {i : Nat} (t : UInt8) (h : i < s.length) : (s.take (i + 1)).map (· ^^^ t) = (s.take i).map (· ^^^ t) ++ [s.getD i 0 ^^^ t] := by
 rw [List.take_add_one, getD_some h]; simp
theorem Qie {C : Ctx} {H0 H : Heap} {b : Nat} {bs cs : Str} {t : UInt8} {l : Sl} {K : Heap → Prop} (h : PenF H0 H b bs t) (hr : rdsl H0 l (bytesV cs)) (hl : l.len = cs.length) (hm : bs.length + cs.length ≤ 140737488355328)
 (k : ∀ H2, PenF H0 H2 b (bs ++ cs.map (· ^^^ t)) t → K H2) : Qk C (some (b, 0)) l K H := by
 apply Qg2
 unfold Qen
 refine ⟨fun x H' => ∃ i : Nat, x = (i : Int) ∧ i ≤ cs.length ∧ PenF H0 H' b (bs ++ (cs.take i).map (· ^^^ t)) t, fun x _ => cs.length - x.toNat, ⟨0, rfl, Nat.zero_le _, by simpa using h⟩, ?_⟩
 rintro x H' ⟨i, rfl, hi, hp⟩
 refine ift.of (fun hc => ?_) (fun hc => ?_)
 ·have hlt : i < cs.length := by simp at hc; omega
  refine QnN (QaY hp.le hr) (j := i) rfl (by omega) (QlW hlt) ?_
  obtain ⟨s, h1, h2, h3, h4⟩ := hp.row
  have hsl : s.len = bs.length + i := by have := h2.1; simp [bytesV] at this; omega
  refine ⟨H0.put b (.row [slv s, .int .u8 (t.toNat : Int)]), fun x e hx => ?_, _, rfl, s, by rw [Qj5]; rfl, _, rfl, (t.toNat : Int), by rw [Qj5]; rfl, ?_⟩
  ·by_cases hxb : x = b
   ·subst hxb; rw [Heap.put_same] at hx; rw [← hx]; exact h1
   ·rw [Heap.put_ne _ _ _ hxb] at hx; exact hp.le _ _ hx
  have hle : (H0.put b (.row [slv s, .int .u8 (t.toNat : Int)])).le H' := fun x e hx => by
   by_cases hxb : x = b
   ·subst hxb; rw [Heap.put_same] at hx; rw [← hx]; exact h1
   ·rw [Heap.put_ne _ _ _ hxb] at hx; exact hp.le _ _ hx
  dsimp only
  rw [QmW]
  intro b2 hb2
  refine ⟨hle.trans (Heap.le_put hb2), ?_⟩
  have hown : OwnF (H0.put b (.row [slv s, .int .u8 (t.toNat : Int)])) (H'.put b2 (.row [.int .u8 ((cs.getD i 0 ^^^ t).toNat : Int)])) 1 s (bytesV (bs ++ (cs.take i).map (· ^^^ t))) :=
   ⟨hle.trans (Heap.le_put hb2), h2.le (Heap.le_put hb2), fun p hpp => by rw [Heap.put_ne _ _ _ (h4 p hpp)]; exact h3 p hpp⟩
  refine Qjl hown (c := [cs.getD i 0 ^^^ t]) (Qju (s := [cs.getD i 0 ^^^ t]) rfl) rfl (by simp; omega) fun r H3 h5 h6 => ?_
  refine ⟨h5.le, _, rfl, _, h5.le _ _ (Heap.put_same ..), by simp, ?_⟩
  rw [Qm (by omega) (by omega)]
  refine ⟨⟨i + 1, by omega, by omega, ?_⟩, by simp; omega⟩
  have hrb : ∀ p, r.p = some p → p.1 ≠ b := fun p hpp e => by have := h5.fresh p hpp; rw [e, Heap.put_same] at this; cases this
  refine ⟨fun x e hx => ?_, hp.nb, r, by rw [Heap.put_same]; rfl, ?_, fun p hpp => ?_, hrb⟩
  ·have hxb : x ≠ b := fun e' => by subst e'; rw [hp.nb] at hx; cases hx
   rw [Heap.put_ne _ _ _ hxb]; exact h5.le _ _ (by rw [Heap.put_ne _ _ _ hxb]; exact hx)
  ·rw [Qi8 t hlt, ← List.append_assoc]
   exact h5.own.but (Heap.but.put _ _ _ _) hrb
  ·have := h5.fresh p hpp
   rwa [Heap.put_ne _ _ _ (hrb p hpp)] at this
 ·have : i = cs.length := by simp at hc; omega
  subst this
  rw [List.take_length] at hp
  exact k _ hp
/-- bytes that are written out -/
theorem QV {C : Ctx} {H0 H : Heap} {b : Nat} {bs cs : Str} {vs : List Value} {t : UInt8} {m : Nat} {K : Heap → Prop} (h : PenF H0 H b bs t) (hv : vs = bytesV cs) (hm0 : m = cs.length) (hm : bs.length + cs.length ≤ 140737488355328)
 (k : ∀ H2, PenF H0 H2 b (bs ++ cs.map (· ^^^ t)) t → K H2) : nw vs (fun b2 H2 => Qk C (some (b, 0)) (Sl.of (some (b2, 0)) m m) K H2) H := by
 intro b2 hb2
 subst hm0
 refine Qie (h.beside hb2) (Qju hv) rfl hm fun H2 h2 => k H2 (h2.down (Heap.le_put (h.le.none hb2)))
theorem QbF {C : Ctx} {H0 H : Heap} {b : Nat} {bs : Str} {t : UInt8} {is : Bool} {K : Heap → Prop} (h : PenF H0 H b bs t) (k : ∀ H2, PenF H0 H2 b bs (if is then t ^^^ 255 else t) → K H2) : Qae C (some (b, 0)) is K H := by
 apply QgH
 unfold Qd3
 cases is with
 | false => exact Qd rfl (k H (by simpa using h))
 | true =>
  obtain ⟨s, h1, h2, h3, h4⟩ := h.row
  refine QE rfl ⟨_, rfl, _, by rw [Q7 h1]; rfl, _, rfl, _, h1, by simp, ?_⟩
  have e : bXor .u8 (t.toNat : Int) 255 = ((t ^^^ 255).toNat : Int) := QmW t 255
  rw [e]
  refine k _ ⟨fun x e hx => ?_, h.nb, s, by rw [Heap.put_same]; rfl, h2.but (Heap.but.put _ _ _ _) h4, h3, h4⟩
  have hxb : x ≠ b := fun e' => by subst e'; rw [h.nb] at hx; cases hx
  rw [Heap.put_ne _ _ _ hxb]; exact h.le _ _ hx
def bl (x : Nat) : Nat := if x = 0 then 0 else Nat.log2 x + 1
theorem QlT (x : Nat) : x < 2 ^ bl x := by
 unfold bl
 split
 ·subst_vars; decide
 ·exact Nat.lt_log2_self
theorem Qm0 {x : Nat} (h : x ≠ 0) : 2 ^ (bl x - 1) ≤ x := by
 unfold bl
 rw [if_neg h]
 simpa using Nat.log2_self_le h
theorem QnY {x n : Nat} (h0 : x < 2 ^ n) (h1 : x ≠ 0 → 2 ^ (n - 1) ≤ x) (h2 : x = 0 → n = 0) : bl x = n := by
 by_cases hx : x = 0
 ·rw [h2 hx, hx]; rfl
 ·have a := QlT x
  have b := Qm0 hx
  have c := h1 hx
  have p1 : bl x - 1 < n := (Nat.pow_lt_pow_iff_right (by omega : 1 < 2)).1 (Nat.lt_of_le_of_lt b h0)
  have p2 : n - 1 < bl x := (Nat.pow_lt_pow_iff_right (by omega : 1 < 2)).1 (Nat.lt_of_le_of_lt c a)
  have hb : 0 < bl x := by unfold bl; rw [if_neg hx]; omega
  have hn : 0 < n := by
   rcases Nat.eq_zero_or_pos n with h | h
   ·subst h; omega
   ·exact h
  omega
theorem QlU {x k : Nat} (h : 2 ^ k ≤ x) : bl (x / 2 ^ k) + k = bl x := by
 have hpos : 0 < 2 ^ k := Nat.two_pow_pos k
 have hx : x ≠ 0 := by omega
 have hy : x / 2 ^ k ≠ 0 := by have := Nat.div_pos h hpos; omega
 refine (QnY (x := x) ?_ (fun _ => ?_) (fun e => absurd e hx)).symm
 ·rw [Nat.pow_add]
  have := QlT (x / 2 ^ k)
  exact (Nat.div_lt_iff_lt_mul hpos).1 this
 ·have h1 := Qm0 hy
  have hb : 0 < bl (x / 2 ^ k) := by unfold bl; rw [if_neg hy]; omega
  have e : bl (x / 2 ^ k) + k - 1 = (bl (x / 2 ^ k) - 1) + k := by omega
  rw [e, Nat.pow_add]
  exact (Nat.le_div_iff_mul_le hpos).1 h1
theorem Qfz {x n : Nat} (h : x < 2 ^ n) : bl x ≤ n := by
 by_cases hx : x = 0
 ·subst hx; simp [bl]
 ·have := Qm0 hx
  have p := (Nat.pow_lt_pow_iff_right (by omega : 1 < 2)).1 (Nat.lt_of_le_of_lt this h)
  omega
theorem Qkw (n k : Nat) (hk : k ≤ 64) : sShr .u64 (n : Int) (k : Int) = ((n / 2 ^ k : Nat) : Int) := by
 unfold sShr
 have hm : min ((k : Int)).toNat IntKind.u64.bits = k := by simp only [Int.toNat_natCast]; show min k 64 = k; omega
 rw [hm, Int.fdiv_eq_ediv_of_nonneg _ (by exact_mod_cast Nat.zero_le _)]
 norm_cast
def len8 : Str := [0, 1, 2, 2, 3, 3, 3, 3, 4, 4, 4, 4, 4, 4, 4, 4] ++ List.replicate 16 5 ++ List.replicate 32 6 ++ List.replicate 64 7 ++ List.replicate 128 8
theorem Qm9 : ∀ i : Fin 256, len8[i.val]? = some (UInt8.ofNat (bl i.val)) := by decide +kernel
theorem Ql9 {C : Ctx} {H : Heap} {x : Nat} {K : Int → Heap → Prop} (hx : x < 18446744073709551616) (k : K (bl x : Int) H) : QbB C (x : Int) K H := by
 apply Qfs
 unfold QcN
 have step : ∀ (s : Nat) (y n : Nat) (J : (Int × Int) → Heap → Prop) (B : Int), B = (2 ^ s : Nat) → s ≤ 32 → y < 18446744073709551616 → n ≤ 56 → bl y + n = bl x →
  (∀ y' n', (y' < 2 ^ s ∨ (y' = y / 2 ^ s ∧ 2 ^ s ≤ y)) → n' ≤ n + s → bl y' + n' = bl x → J ((y' : Int), (n' : Int)) H) →
  ift (decide ((y : Int) ≥ B)) (J ((sShr .u64 (y : Int) (s : Int)), w .i64 ((n : Int) + (s : Int))) H) (J ((y : Int), (n : Int)) H) := by
  intro s y n J B hB hs hy hn he hJ
  subst hB
  refine ift.of (fun h => ?_) (fun h => ?_)
  ·have h' : 2 ^ s ≤ y := by have := of_decide_eq_true h; omega
   rw [Qkw y s (by omega), Qm (by omega) (by omega)]
   have := hJ (y / 2 ^ s) (n + s) (.inr ⟨rfl, h'⟩) (Nat.le_refl _) (by have := QlU h'; omega)
   simpa using this
  ·have h' : y < 2 ^ s := by have := of_decide_eq_false h; omega
   exact hJ y n (.inl h') (by omega) he
 refine ⟨fun p H' => ∃ y n : Nat, p = ((y : Int), (n : Int)) ∧ H = H' ∧ y < 4294967296 ∧ n ≤ 32 ∧ bl y + n = bl x, ?_, ?_⟩
 ·have := step 32 x 0 (fun p H' => ∃ y n : Nat, p = ((y : Int), (n : Int)) ∧ H = H' ∧ y < 4294967296 ∧ n ≤ 32 ∧ bl y + n = bl x) 4294967296 rfl (by omega) hx (by omega) (by omega) (fun y' n' h1 h2 h3 => ⟨y', n', rfl, rfl, by rcases h1 with h1 | ⟨h1, _⟩ <;> omega, by omega, h3⟩)
  have e : w .i64 ((0 : Nat) + (32 : Nat) : Int) = 32 := Qm (by omega) (by omega)
  rw [e] at this
  exact this
 rintro _ _ ⟨y, n, rfl, rfl, hy, hn, he⟩
 refine ⟨fun p H' => ∃ y n : Nat, p = ((y : Int), (n : Int)) ∧ H = H' ∧ y < 65536 ∧ n ≤ 48 ∧ bl y + n = bl x, ?_, ?_⟩
 ·exact step 16 y n (fun p H' => ∃ y n : Nat, p = ((y : Int), (n : Int)) ∧ H = H' ∧ y < 65536 ∧ n ≤ 48 ∧ bl y + n = bl x) 65536 rfl (by omega) (by omega) (by omega) he (fun y' n' h1 h2 h3 => ⟨y', n', rfl, rfl, by rcases h1 with h1 | ⟨h1, _⟩ <;> omega, by omega, h3⟩)
 rintro _ _ ⟨y, n, rfl, rfl, hy, hn, he⟩
 refine ⟨fun p H' => ∃ y n : Nat, p = ((y : Int), (n : Int)) ∧ H = H' ∧ y < 256 ∧ n ≤ 56 ∧ bl y + n = bl x, ?_, ?_⟩
 ·exact step 8 y n (fun p H' => ∃ y n : Nat, p = ((y : Int), (n : Int)) ∧ H = H' ∧ y < 256 ∧ n ≤ 56 ∧ bl y + n = bl x) 256 rfl (by omega) (by omega) (by omega) he (fun y' n' h1 h2 h3 => ⟨y', n', rfl, rfl, by rcases h1 with h1 | ⟨h1, _⟩ <;> omega, by omega, h3⟩)
 rintro _ _ ⟨y, n, rfl, rfl, hy, hn, he⟩
 have ht := Qm9 ⟨y, hy⟩
 have hb8 : bl y ≤ 8 := Qfz hy
 dsimp only at ht ⊢
 rw [w_u8 (by omega) (by omega)]
 refine ⟨UInt8.ofNat (bl y), by omega, ?_, ?_⟩
 ·rw [Int.toNat_natCast, ← ht]; rfl
 ·have e : (UInt8.ofNat (bl y)).toNat = bl y := by rw [UInt8.toNat_ofNat']; omega
  dsimp only
  rw [e, Qm (x := (bl y : Int)) (by omega) (by omega), Qm (by omega) (by omega)]
  have : (n : Int) + (bl y : Int) = (bl x : Int) := by omega
  rw [this]; exact k
end
section
open Go Go.Proofs
/-- k bytes of a number, the highest first -/
def be : Nat → Nat → Str
 | 0, _ => []
 | k + 1, u => UInt8.ofNat (u / 2 ^ (8 * k)) :: be k u
theorem QmH : ∀ k u, (be k u).length = k
 | 0, _ => rfl
 | k + 1, u => by simp [be, QmH k u]
/-- how many bytes a number has -/
def kl (u : Nat) : Nat := (bl u + 7) / 8
theorem QkK {u : Nat} (h : u < 18446744073709551616) : kl u ≤ 8 := by have : bl u ≤ 64 := Qfz (n := 64) h; unfold kl; omega
theorem QnZ (u : Nat) : u < 2 ^ (8 * kl u) := Nat.lt_of_lt_of_le (QlT u) (Nat.pow_le_pow_right (by omega) (by unfold kl; omega))
def numB (first : Nat) (u : Nat) : Str := UInt8.ofNat (first + kl u) :: be (kl u) u
theorem QkF (n : Nat) : w .u8 (n : Int) = ((UInt8.ofNat n).toNat : Int) := by
 rw [QmF, UInt8.toNat_ofNat']; norm_cast
section
variable {C : Ctx} {H0 H : Heap}
theorem QdQ {b : Nat} {bs : Str} {t : UInt8} {first u : Nat} {K : Heap → Prop} (h : PenF H0 H b bs t) (hf : first ≤ 128) (hu : u < 18446744073709551616) (hm : bs.length + 9 ≤ 140737488355328)
 (k : ∀ H2, PenF H0 H2 b (bs ++ (numB first u).map (· ^^^ t)) t → K H2) : QaO C (some (b, 0)) (first : Int) (u : Int) K H := by
 apply Qfl
 unfold QcH
 refine Ql9 hu ?_
 have hb64 : bl u ≤ 64 := Qfz (n := 64) hu
 have hk8 := QkK hu
 have e1 : w .i64 (Int.tdiv (w .i64 ((bl u : Int) + 7)) 8) = (kl u : Int) := by
  rw [Qm (x := (bl u : Int) + 7) (by omega) (by omega), Int.tdiv_eq_ediv_of_nonneg (by omega)]
  have : ((bl u : Int) + 7) / 8 = (kl u : Int) := by unfold kl; omega
  rw [this]; exact Qm (by omega) (by omega)
 rw [e1]
 have e2 : w .u8 ((first : Int) + w .u8 (kl u : Int)) = ((UInt8.ofNat (first + kl u)).toNat : Int) := by
  rw [w_u8 (x := (kl u : Int)) (by omega) (by omega)]
  have : (first : Int) + (kl u : Int) = ((first + kl u : Nat) : Int) := by omega
  rw [this]; exact QkF _
 rw [e2]
 refine QV h (cs := [UInt8.ofNat (first + kl u)]) rfl rfl (by simp; omega) fun H2 h2 => ?_
 refine ⟨fun x H' => ∃ j : Nat, x = (j : Int) ∧ j ≤ kl u ∧ ∃ bs', PenF H0 H' b bs' t ∧ bs'.length + j = bs.length + 1 + kl u ∧ bs' ++ (be j u).map (· ^^^ t) = bs ++ (numB first u).map (· ^^^ t), fun x _ => x.toNat, ⟨kl u, rfl, Nat.le_refl _, _, h2, by simp <;> omega, by simp [numB]⟩, ?_⟩
 rintro x H' ⟨j, rfl, hj, bs', hp, hlen, heq⟩
 refine ift.of (fun hc => ?_) (fun hc => ?_)
 ·have hj0 : 0 < j := by have := of_decide_eq_true hc; omega
  obtain ⟨j, rfl⟩ : ∃ i, j = i + 1 := ⟨j - 1, by omega⟩
  have e3 : w .i64 (((j + 1 : Nat) : Int) - 1) = (j : Int) := by rw [Qm (by omega) (by omega)]; omega
  have e4 : w .i64 (8 * (j : Int)) = ((8 * j : Nat) : Int) := by rw [Qm (by omega) (by omega)]; omega
  rw [e3, e4, Qkw u (8 * j) (by omega), QkF]
  refine ⟨by omega, ?_⟩
  refine QV hp (cs := [UInt8.ofNat (u / 2 ^ (8 * j))]) rfl rfl (by simp; omega) fun H3 h3 => ?_
  refine ⟨⟨j, rfl, by omega, _, h3, by simp; omega, ?_⟩, by dsimp only; omega⟩
  rw [← heq]; simp [be]
 ·have hj0 : j = 0 := by have := of_decide_eq_false hc; omega
  subst hj0
  simp only [be, List.map_nil, List.append_nil] at heq
  subst heq
  exact k _ hp
theorem QlV {n : Int} (h0 : -9223372036854775808 ≤ n) (h1 : n ≤ 9223372036854775807) : bXor .i64 (-1) n = -1 - n := by
 show IntKind.i64.wrap (((BitVec.ofInt 64 (-1) ^^^ BitVec.ofInt 64 n : BitVec 64).toNat : Nat) : Int) = _
 have e : BitVec.ofInt 64 (-1) = BitVec.allOnes 64 := rfl
 rw [e, BitVec.allOnes_xor]
 have h2 := Qkb (~~~ BitVec.ofInt 64 n)
 have hx := Qlb h0 h1
 generalize BitVec.ofInt 64 n = x at *
 have h3 : (~~~ x).toInt = -1 - x.toInt := by
  have hl := x.isLt
  rw [BitVec.toInt_eq_toNat_cond, BitVec.toInt_eq_toNat_cond, BitVec.toNat_not]
  split <;> split <;> omega
 rw [hx] at h3
 exact h2.trans h3
/-- a number's bytes -/
def Nm (n : Int) : Str := if n < 0 then (numB 128 (-1 - n).toNat).map (· ^^^ 255) else numB 128 n.toNat
def esc (s : Str) : Str := s.flatMap fun c => if c = 0 then [0, 255] else [c]
def Tx (s : Str) : Str := esc s ++ [0, 0]
theorem QkN {b : Nat} {bs : Str} {t : UInt8} {n : Int} {K : Heap → Prop} (h : PenF H0 H b bs t) (h0 : -9223372036854775808 ≤ n) (h1 : n ≤ 9223372036854775807) (hm : bs.length + 9 ≤ 140737488355328)
 (k : ∀ H2, PenF H0 H2 b (bs ++ (Nm n).map (· ^^^ t)) t → K H2) : QcX C (some (b, 0)) n K H := by
 apply Qg1
 unfold Qem
 by_cases hn : n < 0
 ·refine ⟨fun x H' => x = -1 - n ∧ H = H', QE (decide_eq_true hn) ⟨QlV h0 h1, rfl⟩, ?_⟩
  rintro x _ ⟨rfl, rfl⟩
  refine QbF h fun H2 h2 => ?_
  rw [decide_eq_true hn, if_pos rfl] at h2
  obtain ⟨u, hu⟩ := Int.eq_ofNat_of_zero_le (show 0 ≤ -1 - n by omega)
  rw [hu, Qnu (by omega) (by omega)]
  refine QdQ (first := 128) h2 (by omega) (by omega) hm fun H3 h3 => ?_
  refine QbF h3 fun H4 h4 => k H4 ?_
  rw [decide_eq_true hn, if_pos rfl] at h4
  have e : t ^^^ 255 ^^^ 255 = t := by rw [UInt8.xor_assoc]; simp
  rw [e] at h4
  unfold Nm
  rw [if_pos hn, List.map_map]
  have e2 : (-1 - n).toNat = u := by omega
  rw [e2]
  have e3 : ((fun x => x ^^^ t) ∘ fun x : UInt8 => x ^^^ 255) = fun x => x ^^^ (t ^^^ 255) := by
   funext x; simp only [Function.comp]; rw [UInt8.xor_assoc, UInt8.xor_comm 255 t]
  rw [e3]; exact h4
 ·refine ⟨fun x H' => x = n ∧ H = H', Qd (decide_eq_false hn) ⟨rfl, rfl⟩, ?_⟩
  rintro x _ ⟨rfl, rfl⟩
  refine QbF h fun H2 h2 => ?_
  rw [decide_eq_false hn, if_neg (by decide)] at h2
  obtain ⟨u, rfl⟩ := Int.eq_ofNat_of_zero_le (show 0 ≤ x by omega)
  rw [Qnu (by omega) (by omega)]
  refine QdQ (first := 128) h2 (by omega) (by omega) hm fun H3 h3 => ?_
  refine QbF h3 fun H4 h4 => k H4 ?_
  rw [decide_eq_false hn, if_neg (by decide)] at h4
  unfold Nm
  rw [if_neg hn]; exact h4
theorem QiJ (c : UInt8) (s : Str) : esc (c :: s) = (if c = 0 then [0, 255] else [c]) ++ esc s := rfl
theorem Ql1 {s : Str} {i : Nat} (h : i < s.length) : esc (s.take (i + 1)) = esc (s.take i) ++ (if s.getD i 0 = 0 then [0, 255] else [s.getD i 0]) := by
 rw [List.take_add_one, getD_some h]
 simp [esc]
theorem Qm2 (s : Str) : (esc s).length ≤ 2 * s.length := by
 induction s with
 | nil => simp [esc]
 | cons c s ih => rw [QiJ]; simp only [List.length_append, List.length_cons]; split <;> simp <;> omega
theorem Qhz {b : Nat} {bs : Str} {t : UInt8} {s : Str} {K : Heap → Prop} (h : PenF H0 H b bs t) (hm : bs.length + 2 * s.length + 2 ≤ 140737488355328)
 (k : ∀ H2, PenF H0 H2 b (bs ++ (Tx s).map (· ^^^ t)) t → K H2) : Qbo C (some (b, 0)) s K H := by
 apply QgJ
 unfold Qd5
 refine ⟨fun x H' => ∃ i : Nat, x = (i : Int) ∧ i ≤ s.length ∧ PenF H0 H' b (bs ++ (esc (s.take i)).map (· ^^^ t)) t, fun x _ => s.length - x.toNat, ⟨0, rfl, Nat.zero_le _, by simpa [esc] using h⟩, ?_⟩
 rintro x H' ⟨i, rfl, hi, hp⟩
 have hel := Qm2 (s.take i)
 have htl : (s.take i).length = i := by simp; omega
 refine ift.of (fun hc => ?_) (fun hc => ?_)
 ·have hlt : i < s.length := by simpa using hc
  refine ⟨fun _ H2 => PenF H0 H2 b (bs ++ (esc (s.take (i + 1))).map (· ^^^ t)) t, ?_, fun _ H2 h2 => ?_⟩
  ·refine ⟨s.getD i 0, by omega, getD_some hlt, ?_⟩
   refine QV hp (cs := [s.getD i 0]) rfl rfl (by simp; omega) fun H2 h2 => ?_
   refine ⟨s.getD i 0, by omega, getD_some hlt, ?_⟩
   rw [Ql1 hlt]
   refine ift.of (fun h0 => ?_) (fun h0 => ?_)
   ·have hz : s.getD i 0 = 0 := by
     have : (s.getD i 0).toNat = 0 := by simpa using h0
     exact UInt8.toNat_inj.1 this
    refine QV h2 (cs := [255]) rfl rfl (by simp; omega) fun H3 h3 => ?_
    rw [hz] at h3 ⊢
    rw [if_pos rfl]
    simpa using h3
   ·have hz : s.getD i 0 ≠ 0 := fun e => by rw [e] at h0; simp at h0
    rw [if_neg hz]
    simpa using h2
  ·rw [Qm (by omega) (by omega)]
   exact ⟨⟨i + 1, by omega, by omega, h2⟩, by simp; omega⟩
 ·have : i = s.length := by have := of_decide_eq_false hc; omega
  subst this
  rw [List.take_length] at hp hel
  refine QV hp (cs := [0, 0]) rfl rfl (by simp; omega) fun H2 h2 => k H2 ?_
  unfold Tx
  simpa using h2
/-- the pen's bytes, taken out -/
theorem PenF.take {b : Nat} {bs : Str} {t : UInt8} (h : PenF H0 H b bs t) : ∃ s : Sl, rd H (b, 0) = some (slv s) ∧ OwnF H0 H 1 s (bytesV bs) := by
 obtain ⟨s, h1, h2, h3, h4⟩ := h.row
 exact ⟨s, by rw [Q7 h1]; rfl, h.le, h2, h3⟩
theorem Qcu (s : Str) : s.map (· ^^^ 0) = s := by simp
end
end
section
open Go Go.Proofs
/-- a reader: what is left, its turn, whether it failed -/
structure RS where
 s : Str
 t : UInt8
 f : Bool
structure Rdr (H : Heap) (b : Nat) (r : RS) : Prop where
 ok : ∃ sl : Sl, H b = some (true, .row [slv sl, .int .u8 (r.t.toNat : Int), .bool r.f]) ∧ sl.len = r.s.length ∧ sl.len ≤ sl.cap ∧ Im H sl (bytesV r.s)
section
variable {C : Ctx} {H : Heap}
end
end
section
open Go Go.Proofs
section
variable {C : Ctx} {H : Heap}
/-- where the loop of Str stands -/
structure StrI (H H' : Heap) (b : Nat) (x : Sl) (acc : Str) (r : RS) : Prop where
 but : Heap.but b H H'
 rdr : Rdr H' b r
 own : Own H' 1 x (bytesV acc)
 fresh : Fresh H x
 ne : ∀ p, x.p = some p → p.1 ≠ b
end
end
section
open Go Go.Proofs
section
variable {C : Ctx} {H : Heap}
/-- how bytes stand -/
def cmpS : Str → Str → Int
 | [], [] => 0
 | [], _ :: _ => -1
 | _ :: _, [] => 1
 | a :: s, b :: t => if a < b then -1 else if b < a then 1 else cmpS s t
theorem Qin (a b : UInt8) : a < b ∨ b < a ∨ a = b := by
 rcases Nat.lt_trichotomy a.toNat b.toNat with h | h | h
 ·exact .inl h
 ·exact .inr (.inr (UInt8.toNat_inj.1 h))
 ·exact .inr (.inl h)
theorem Qdq (a : UInt8) : ¬ a < a := fun h => Nat.lt_irrefl _ h
theorem Qgq {a b : UInt8} (h : a < b) : ¬ b < a := fun h2 => Nat.lt_asymm h h2
theorem Qmy (a b : UInt8) (s t : Str) : slt (a :: s) (b :: t) = (decide (a < b) || (decide (a = b) && slt s t)) := by
 simp only [slt, Op.bytesLess]
 by_cases h : a < b
 ·simp [h]
 ·by_cases h2 : a = b
  ·subst h2; simp [h]
  ·simp [h, h2]
theorem Qi6 : ∀ s t : Str, slt s t = decide (cmpS s t < 0) ∧ (cmpS s t = 0 ↔ s = t)
 | [], [] => ⟨rfl, by simp [cmpS]⟩
 | [], b :: t => ⟨rfl, by simp [cmpS]⟩
 | a :: s, [] => ⟨rfl, by simp [cmpS]⟩
 | a :: s, b :: t => by
  obtain ⟨h1, h2⟩ := Qi6 s t
  rw [Qmy, h1]
  simp only [cmpS]
  rcases Qin a b with h | h | rfl
  ·have hne : a ≠ b := fun e => by subst e; exact Qdq _ h
   simp [h, hne]
  ·have hne : a ≠ b := fun e => by subst e; exact Qdq _ h
   simp [h, Qgq h, hne]
  ·simp [Qdq, h2]
end
end
section
open Go Go.Proofs
/-- less at a place that both have -/
inductive Lt : Str → Str → Prop
 | head {c d : UInt8} {s t : Str} (h : c < d) : Lt (c :: s) (d :: t)
 | tail {c : UInt8} {s t : Str} (h : Lt s t) : Lt (c :: s) (c :: t)
theorem Lt.app {s t : Str} (h : Lt s t) (x y : Str) : Lt (s ++ x) (t ++ y) := by
 induction h with
 | head h => exact .head h
 | tail _ ih => exact .tail ih
theorem Lt.pre (p : Str) {s t : Str} (h : Lt s t) : Lt (p ++ s) (p ++ t) := by
 induction p with
 | nil => exact h
 | cons c p ih => exact .tail ih
theorem Lt.cmp {s t : Str} (h : Lt s t) : cmpS s t = -1 ∧ cmpS t s = 1 := by
 induction h with
 | head h => simp [cmpS, h, Qgq h]
 | tail _ ih => simp [cmpS, Qdq, ih]
theorem xor255 : ∀ c : UInt8, (c ^^^ 255).toNat = 255 - c.toNat := by
 intro c
 have : ∀ i : Fin 256, ((UInt8.ofNat i.val) ^^^ 255).toNat = 255 - (UInt8.ofNat i.val).toNat := by decide +kernel
 have h := this ⟨c.toNat, Qnt c⟩
 simpa using h
theorem Lt.flip {s t : Str} (h : Lt s t) : Lt (t.map (· ^^^ 255)) (s.map (· ^^^ 255)) := by
 induction h with
 | @head c d s t h =>
  refine .head ?_
  have h1 : c.toNat < d.toNat := h
  have := Qnt c; have := Qnt d
  show (d ^^^ 255).toNat < (c ^^^ 255).toNat
  rw [xor255, xor255]; omega
 | tail _ ih => exact .tail ih
theorem Qjw (n k : Nat) : n % 2 ^ (8 * (k + 1)) = (n / 2 ^ (8 * k) % 256) * 2 ^ (8 * k) + n % 2 ^ (8 * k) := by
 have e : 2 ^ (8 * (k + 1)) = 2 ^ (8 * k) * 256 := by rw [show 8 * (k + 1) = 8 * k + 8 by omega, Nat.pow_add]
 rw [e, Nat.mod_mul, Nat.add_comm, Nat.mul_comm (2 ^ (8 * k))]
theorem QnJ : ∀ (k n m : Nat), n % 2 ^ (8 * k) < m % 2 ^ (8 * k) → Lt (be k n) (be k m)
 | 0, n, m, h => by simp [Nat.mod_one] at h
 | k + 1, n, m, h => by
  rw [Qjw, Qjw m] at h
  have hp : 0 < 2 ^ (8 * k) := Nat.two_pow_pos _
  have h1 := Nat.mod_lt n hp
  have h2 := Nat.mod_lt m hp
  by_cases he : n / 2 ^ (8 * k) % 256 = m / 2 ^ (8 * k) % 256
  ·rw [he] at h
   have hb : UInt8.ofNat (n / 2 ^ (8 * k)) = UInt8.ofNat (m / 2 ^ (8 * k)) := UInt8.toNat_inj.1 (by rw [UInt8.toNat_ofNat', UInt8.toNat_ofNat']; exact he)
   simp only [be]
   rw [hb]
   exact .tail (QnJ k n m (by omega))
  ·refine .head ?_
   show (UInt8.ofNat _).toNat < (UInt8.ofNat _).toNat
   rw [UInt8.toNat_ofNat', UInt8.toNat_ofNat']
   rcases Nat.lt_or_ge (n / 2 ^ (8 * k) % 256) (m / 2 ^ (8 * k) % 256) with hlt | hge
   ·exact hlt
   ·exfalso
    have h3 : (m / 2 ^ (8 * k) % 256 + 1) * 2 ^ (8 * k) ≤ (n / 2 ^ (8 * k) % 256) * 2 ^ (8 * k) := Nat.mul_le_mul_right _ (by omega)
    rw [Nat.add_mul] at h3
    omega
theorem Qm1 {n m : Nat} (h : n ≤ m) : bl n ≤ bl m := Qfz (Nat.lt_of_le_of_lt h (QlT m))
theorem Qm6 {n m : Nat} (h : n ≤ m) : kl n ≤ kl m := by have := Qm1 h; unfold kl; omega
theorem QiU {f n m : Nat} (hf : f ≤ 128) (hm : m < 18446744073709551616) (h : n < m) : Lt (numB f n) (numB f m) := by
 have h1 := Qm6 (Nat.le_of_lt h)
 have h2 := QkK hm
 unfold numB
 by_cases he : kl n = kl m
 ·rw [he]
  refine .tail (QnJ _ _ _ ?_)
  have a := QnZ m
  rw [Nat.mod_eq_of_lt a, Nat.mod_eq_of_lt (by omega)]
  exact h
 ·refine .head ?_
  show (UInt8.ofNat _).toNat < (UInt8.ofNat _).toNat
  rw [UInt8.toNat_ofNat', UInt8.toNat_ofNat']; omega
theorem QnD {n m : Int} (h0 : -9223372036854775808 ≤ n) (h1 : m ≤ 9223372036854775807) (h : n < m) : Lt (Nm n) (Nm m) := by
 unfold Nm
 by_cases hn : n < 0
 ·rw [if_pos hn]
  by_cases hm : m < 0
  ·rw [if_pos hm]
   exact (QiU (by omega) (by omega) (by omega)).flip
  ·rw [if_neg hm]
   have k1 := QkK (u := (-1 - n).toNat) (by omega)
   have k2 := QkK (u := m.toNat) (by omega)
   unfold numB
   refine .head ?_
   show (_ ^^^ 255 : UInt8).toNat < (UInt8.ofNat _).toNat
   rw [xor255, UInt8.toNat_ofNat', UInt8.toNat_ofNat']; omega
 ·rw [if_neg hn, if_neg (by omega)]
  exact QiU (by omega) (by omega) (by omega)
theorem QjR (c : UInt8) (s : Str) : Tx (c :: s) = (if c = 0 then [0, 255] else [c]) ++ Tx s := by simp [Tx, QiJ]
theorem QjF {c : UInt8} (h : c ≠ 0) : (0 : UInt8) < c := by
 rcases Qin 0 c with h1 | h1 | h1
 ·exact h1
 ·exact absurd h1 (by show ¬ c.toNat < (0 : UInt8).toNat; exact Nat.not_lt_zero _)
 ·exact absurd h1.symm h
theorem QmX : ∀ s t : Str, cmpS s t < 0 → Lt (Tx s) (Tx t)
 | [], [], h => by simp [cmpS] at h
 | [], d :: t, _ => by
  rw [QjR]
  by_cases hd : d = 0
  ·rw [if_pos hd]; exact .tail (.head (by decide))
  ·rw [if_neg hd]; exact .head (QjF hd)
 | _ :: _, [], h => by simp [cmpS] at h
 | c :: s, d :: t, h => by
  rw [QjR, QjR]
  simp only [cmpS] at h
  rcases Qin c d with h1 | h1 | rfl
  ·have hd : d ≠ 0 := fun e => by subst e; exact absurd h1 (by show ¬ c.toNat < (0 : UInt8).toNat; exact Nat.not_lt_zero _)
   rw [if_neg hd]
   by_cases hc : c = 0
   ·rw [if_pos hc]; exact .head (QjF hd)
   ·rw [if_neg hc]; exact .head h1
  ·rw [if_neg (Qgq h1), if_pos h1] at h; omega
  ·rw [if_neg (Qdq c), if_neg (Qdq c)] at h
   exact (QmX s t h).pre _
theorem Qjp : ∀ s t : Str, cmpS t s = - cmpS s t
 | [], [] => rfl
 | [], _ :: _ => rfl
 | _ :: _, [] => rfl
 | a :: s, b :: t => by
  simp only [cmpS]
  rcases Qin a b with h | h | rfl
  ·rw [if_neg (Qgq h), if_pos h, if_pos h]; rfl
  ·rw [if_pos h, if_neg (Qgq h), if_pos h]
  ·simp only [if_neg (Qdq a)]; exact Qjp s t
theorem QgY (f u : Nat) : (numB f u).length = 1 + kl u := by simp [numB, QmH]; omega
theorem QnC {n : Int} (h0 : -9223372036854775808 ≤ n) (h1 : n ≤ 9223372036854775807) : 1 ≤ (Nm n).length ∧ (Nm n).length ≤ 9 := by
 unfold Nm
 split
 ·rw [List.length_map, QgY]; have := QkK (u := (-1 - n).toNat) (by omega); omega
 ·rw [QgY]; have := QkK (u := n.toNat) (by omega); omega
theorem QmM {n : Nat} (h : n ≤ 2147483647) : kl n ≤ 4 := by have : bl n ≤ 31 := Qfz (n := 31) (by omega); unfold kl; omega
def zc (s : Str) : Nat := (s.filter (· == 0)).length
theorem Qh9 : ∀ s : Str, (esc s).length = s.length + zc s
 | [] => rfl
 | c :: s => by
  rw [QiJ, List.length_append, Qh9 s]
  unfold zc
  by_cases h : c = 0
  ·simp [h]; omega
  ·simp [h]; omega
end
section
open Go Go.Proofs
def Bg (s : Str) : Str := if isMin s then (128 :: (numB 0 (unmin s).length ++ unmin s)).map (· ^^^ 255) else 128 :: (numB 0 (unmin s).length ++ unmin s)
mutual
def encV : V → Str
 | .mk k n s l => UInt8.ofNat k.toNat :: (if k = 1 then [if n = 1 then 1 else 0] else if k = 2 then Nm n else if k = 3 then Bg s else if k = 4 then Tx s else if k = 5 then encVs l else if k = 6 then Tx s ++ encVs l else [])
def encVs : List V → Str
 | [] => [0]
 | v :: l => 1 :: (encV v ++ encVs l)
end
theorem Qhg (v : V) : encV v = UInt8.ofNat v.k.toNat :: (if v.k = 1 then [if v.n = 1 then 1 else 0] else if v.k = 2 then Nm v.n else if v.k = 3 then Bg v.s else if v.k = 4 then Tx v.s else if v.k = 5 then encVs v.l else if v.k = 6 then Tx v.s ++ encVs v.l else []) := by obtain ⟨k, n, s, l⟩ := v; simp only [encV]; rfl
/-- without the 0 behind -/
def encLs : List V → Str
 | [] => []
 | v :: l => 1 :: (encV v ++ encLs l)
theorem QiI : ∀ l : List V, encVs l = encLs l ++ [0]
 | [] => rfl
 | v :: l => by simp [encVs, encLs, QiI l]
theorem Qgt : ∀ a b : List V, encLs (a ++ b) = encLs a ++ encLs b
 | [], b => rfl
 | v :: a, b => by simp [encLs, Qgt a b]
theorem QkH {l : List V} {i : Nat} (h : i < l.length) : encLs (l.take (i + 1)) = encLs (l.take i) ++ 1 :: encV l[i] := by
 rw [List.take_add_one, List.getElem?_eq_getElem h, Option.toList_some, Qgt]; simp [encLs]
mutual
def vtot : V → Nat
 | .mk k n s l => vtots l + 2 * s.length + 13
def vtots : List V → Nat
 | [] => 0
 | v :: l => vtot v + vtots l
end
theorem QhI (v : V) : vtot v = vtots v.l + 2 * v.s.length + 13 := by obtain ⟨k, n, s, l⟩ := v; rfl
theorem Qew : ∀ a b : List V, vtots (a ++ b) = vtots a + vtots b
 | [], b => by simp [vtots]
 | v :: a, b => by simp only [List.cons_append, vtots, Qew a b]; omega
theorem Qiq (l : List V) (i : Nat) : vtots (l.take i) ≤ vtots l := by
 have := Qew (l.take i) (l.drop i)
 rw [List.take_append_drop] at this; omega
theorem Qdr : ∀ {l : List V} {v : V}, v ∈ l → vtot v ≤ vtots l
 | w :: l, v, h => by
  simp only [vtots]
  rcases List.mem_cons.1 h with rfl | h
  ·omega
  ·have := Qdr h; omega
theorem Qnx (s : Str) (h : s.length < 2147483648) : (Bg s).length ≤ s.length + 6 := by
 have hu : (unmin s).length ≤ s.length := by unfold unmin; split <;> simp
 have hk := QmM (n := (unmin s).length) (by omega)
 unfold Bg
 split <;> simp [QgY] <;> omega
theorem Qhf : ∀ (l : List V), (∀ v ∈ l, (encV v).length + 1 ≤ vtot v) → (encLs l).length ≤ vtots l
 | [], _ => by simp [encLs]
 | v :: l, h => by
  have h1 := h v (List.mem_cons_self ..)
  have h2 := Qhf l fun w hw => h w (List.mem_cons_of_mem _ hw)
  simp only [encLs, vtots, List.length_cons, List.length_append]; omega
theorem QnW (s : Str) : zc s ≤ s.length := List.length_filter_le _ _
theorem QmG (s : Str) : (Tx s).length = s.length + zc s + 2 := by simp [Tx, Qh9]
theorem Qki (v : V) (hB : VB v) (hs : vtot v < 2147483648) : (encV v).length + 1 ≤ vtot v := by
 refine V.rec_ (P := fun v => VB v → vtot v < 2147483648 → (encV v).length + 1 ≤ vtot v) (fun v ih hB hs => ?_) v hB hs
 rw [QhI] at hs ⊢
 have hl := Qhf v.l fun w hw => ih w hw (hB.ls.mem hw) (by have := Qdr hw; omega)
 have hb := hB.n
 have h1 := (QnC hb.1 hb.2).2
 have h2 := Qnx v.s (by omega)
 have h3 := QmG v.s
 have h4 := QnW v.s
 rw [Qhg]
 have h5 : (encVs v.l).length = (encLs v.l).length + 1 := by rw [QiI]; simp
 simp only [List.length_cons]
 split
 ·simp
 split
 ·omega
 split
 ·omega
 split
 ·omega
 split
 ·omega
 split
 ·rw [List.length_append]; omega
 ·simp
section
variable {C : Ctx} {H : Heap}
end
end
section
open Go Go.Proofs
theorem QiL {s : Str} (h : isMin s = false) : unmin s = s := by
 unfold isMin at h
 unfold unmin
 rw [if_neg (of_decide_eq_false h)]
theorem Qhk {s : Str} (h : isMin s = true) : unmin s = s.tail ∧ s = 45 :: s.tail := by
 unfold isMin at h
 have h := of_decide_eq_true h
 unfold unmin
 rw [if_pos h]
 cases s with
 | nil => simp at h
 | cons c t => simp at h; subst h; exact ⟨rfl, rfl⟩
theorem Qjb (s : Str) : (unmin s).length ≤ s.length := by unfold unmin; split <;> simp
section
variable {C : Ctx} {H : Heap}
theorem mayN (v : V) (h : formV v = true) : okN v.k v.n v.s v.l.length = true ∧ formVs v.l = true := by rw [Qb5, Bool.and_eq_true] at h; exact h
theorem QnQ {k n : Int} {s : Str} {m : Nat} (h : okN k n s m = true) : k = 1 ∨ k = 2 ∨ k = 3 ∨ k = 4 ∨ k = 5 ∨ k = 6 := by
 unfold okN at h
 by_cases h1 : k = 1
 ·exact .inl h1
 by_cases h2 : k = 2
 ·exact .inr (.inl h2)
 by_cases h3 : k = 3
 ·exact .inr (.inr (.inl h3))
 by_cases h4 : k = 4
 ·exact .inr (.inr (.inr (.inl h4)))
 by_cases h5 : k = 5
 ·exact .inr (.inr (.inr (.inr (.inl h5))))
 by_cases h6 : k = 6
 ·exact .inr (.inr (.inr (.inr (.inr h6))))
 rw [if_neg h1, if_neg h2, if_neg h3, if_neg h4, if_neg h5, if_neg h6] at h; cases h
theorem QiV {k n : Int} {s : Str} {m : Nat} (h : okN k n s m = true) (hk : k = 1) : n = 0 ∨ n = 1 := by
 unfold okN at h
 rw [if_pos hk] at h
 simp only [Bool.and_eq_true, Bool.or_eq_true, beq_iff_eq] at h
 exact h.1.1
end
end
section
open Go Go.Proofs
section
variable {C : Ctx} {H0 H : Heap}
theorem Qk6 {s : Str} {K : Str → Bool → Heap → Prop} (k : K (unmin s) (isMin s) H) : Qba C s [45] K H := by
 apply QeF
 unfold QbZ
 apply Qbj
 unfold Q8
 refine Qeg ?_
 have e : ([45] : Str).isPrefixOf s = isMin s := by
  unfold isMin
  cases s with
  | nil => rfl
  | cons c t =>
   by_cases hc : c = 45
   ·subst hc; simp [List.isPrefixOf]
   ·simp [List.isPrefixOf, hc, Ne.symm hc]
 rw [e]
 cases hm : isMin s with
 | false =>
  rw [hm, QiL hm] at k
  exact QE rfl k
 | true =>
  obtain ⟨h1, h2⟩ := Qhk hm
  rw [hm, h1] at k
  generalize s.tail = t at *
  subst h2
  refine Qd rfl ⟨by simp, by simp only [List.length_cons, List.length_nil]; omega, by omega, t, ?_, k⟩
  rw [List.take_of_length_le (by omega)]; rfl
theorem QjB {b : Nat} {bs : Str} {v : V} {x : TV} {K : Heap → Prop} (h : PenF H0 H b bs 0) (hv : VIs H0 v x) (hn : v.n = 0 ∨ v.n = 1) (hm : bs.length + 1 ≤ 140737488355328)
 (k : ∀ H2, PenF H0 H2 b (bs ++ [if v.n = 1 then 1 else 0]) 0 → K H2) : QbS C (some (b, 0)) x K H := by
 apply Qga
 unfold Qdj
 intro b1 n1
 refine bxN (Heap.put_same ..) ?_
 rw [hv.num]
 have hh := h.beside n1 (g := .row (Qa.c x)) (m := true)
 have hd := fun {H2 : Heap} {bs : Str} {t : UInt8} (h2 : PenF (H0.put b1 (.row (Qa.c x))) H2 b bs t) => h2.down (Heap.le_put (h.le.none n1))
 rcases hn with hn | hn
 ·rw [hn] at k ⊢
  exact QV hh (cs := [0]) rfl rfl (by simpa using hm) fun H2 h2 => k H2 (by simpa using hd h2)
 ·rw [hn] at k ⊢
  exact QV hh (cs := [1]) rfl rfl (by simpa using hm) fun H2 h2 => k H2 (by simpa using hd h2)
theorem QjD {b : Nat} {bs : Str} {v : V} {x : TV} {K : Heap → Prop} (h : PenF H0 H b bs 0) (hv : VIs H0 v x) (hB : VB v) (hm : bs.length + 9 ≤ 140737488355328)
 (k : ∀ H2, PenF H0 H2 b (bs ++ Nm v.n) 0 → K H2) : QbT C (some (b, 0)) x K H := by
 apply Qgc
 unfold Qdl
 intro b1 n1
 refine bxN (Heap.put_same ..) ?_
 rw [hv.num]
 have hb := hB.n
 refine QkN (h.beside n1) hb.1 hb.2 hm fun H2 h2 => k H2 ?_
 rw [Qcu] at h2
 exact h2.down (Heap.le_put (h.le.none n1))
theorem QjE {b : Nat} {bs : Str} {v : V} {x : TV} {K : Heap → Prop} (h : PenF H0 H b bs 0) (hv : VIs H0 v x) (hm : bs.length + 2 * v.s.length + 2 ≤ 140737488355328)
 (k : ∀ H2, PenF H0 H2 b (bs ++ Tx v.s) 0 → K H2) : QbU C (some (b, 0)) x K H := by
 apply Qgd
 unfold Qdm
 intro b1 n1
 refine bxS (Heap.put_same ..) ?_
 rw [hv.txt]
 refine Qhz (h.beside n1) hm fun H2 h2 => k H2 ?_
 rw [Qcu] at h2
 exact h2.down (Heap.le_put (h.le.none n1))
theorem QkM {b : Nat} {bs : Str} {v : V} {x : TV} {K : Heap → Prop} (h : PenF H0 H b bs 0) (hv : VIs H0 v x) (hs : v.s.length < 2147483648) (hm : bs.length + v.s.length + 10 ≤ 140737488355328)
 (k : ∀ H2, PenF H0 H2 b (bs ++ Bg v.s) 0 → K H2) : QcW C (some (b, 0)) x K H := by
 apply Qg0
 unfold Qel
 intro b1 n1
 refine bxS (Heap.put_same ..) ?_
 rw [hv.txt]
 refine Qk6 ?_
 have hul := Qjb v.s
 have hk := QmM (n := (unmin v.s).length) (by omega)
 have hh := h.beside n1 (g := .row (Qa.c x)) (m := true)
 refine QbF hh fun H2 h2 => ?_
 refine QV h2 (cs := [128]) rfl rfl (by simp; omega) fun H3 h3 => ?_
 rw [Qnu (by omega) (by omega)]
 refine QdQ (first := 0) h3 (by omega) (by omega) (by simp; omega) fun H4 h4 => ?_
 refine QnU fun b2 cap H5 hb2 hH5 hcap hr5 => ?_
 subst hH5
 have h5 := h4.beside hb2 (g := .row (bytesV (unmin v.s) ++ List.replicate (cap - (unmin v.s).length) (.int .u8 0))) (m := true)
 refine Qie h5 (.inr ⟨rfl, (b2, 0), rfl, QdR (Heap.put_same ..) fun j v' hj => ?_⟩) rfl (by simp [QgY]; omega) fun H6 h6 => ?_
 ·have := (List.getElem?_eq_some_iff.1 hj).1
  rw [Nat.zero_add, List.getElem?_append_left this]; exact hj
 refine QbF h6 fun H7 h7 => k H7 ?_
 have h8 := (h7.down (Heap.le_put (h4.le.none hb2))).down (Heap.le_put (h.le.none n1))
 unfold Bg
 cases hmn : isMin v.s with
 | false => rw [hmn] at h8; simpa using h8
 | true => rw [hmn] at h8; simpa using h8
/-- the pen writes a value -/
def PenV (C : Ctx) (b : Nat) (w : V) : Prop := ∀ {H0 H : Heap} {bs : Str} {x : TV} {K : Heap → Prop}, PenF H0 H b bs 0 → VIs H0 w x → VB w → formV w = true → vtot w < 2147483648 → bs.length + vtot w ≤ 140737488355328 → (∀ H2, PenF H0 H2 b (bs ++ encV w) 0 → K H2) → Qa3 C (some (b, 0)) x K H
theorem Qhy {b : Nat} {bs : Str} {v : V} {x : TV} {K : Heap → Prop} (ih : ∀ w ∈ v.l, PenV C b w) (h : PenF H0 H b bs 0) (hv : VIs H0 v x) (hB : VB v) (hF : formVs v.l = true) (hs : vtot v < 2147483648) (hm : bs.length + vtots v.l + 10 ≤ 140737488355328)
 (k : ∀ H2, PenF H0 H2 b (bs ++ encVs v.l) 0 → K H2) : Qbn C (some (b, 0)) x K H := by
 apply QgI
 unfold Qd4
 intro b1 n1
 have hh := h.beside n1 (g := .row (Qa.c x)) (m := true)
 have hle0 := Heap.le_put (h.le.none n1) (g := .row (Qa.c x)) (m := true)
 refine bxL (Heap.put_same ..) ?_
 have hr := hv.row
 have hl := hr.len
 have hbl := hB.l
 rw [QhI] at hs
 generalize H0.put b1 (.row (Qa.c x)) = B at *
 generalize H.put b1 (.row (Qa.c x)) = H1 at *
 refine ⟨fun y H' => ∃ i : Nat, y = (i : Int) ∧ i ≤ v.l.length ∧ PenF B H' b (bs ++ encLs (v.l.take i)) 0, fun y _ => v.l.length - y.toNat, ⟨0, rfl, Nat.zero_le _, by simpa [encLs] using hh⟩, ?_⟩
 rintro y H2 ⟨i, rfl, hi, h2⟩
 have hlt3 := Qhf (v.l.take i) fun w hw => Qki w (hB.ls.mem (List.mem_of_mem_take hw)) (by have := Qdr (List.mem_of_mem_take hw); omega)
 have hvt := Qiq v.l i
 rw [hl]
 refine ift.of (fun hc => ?_) (fun hc => ?_)
 ·have hlt : i < v.l.length := by have := of_decide_eq_true hc; omega
  have hmem := List.getElem_mem hlt
  have hmv := Qdr hmem
  have hets := QkH hlt
  have hvt1 : vtots (v.l.take i) + vtot v.l[i] ≤ vtots v.l := by
   have h1 := Qiq v.l (i + 1)
   have h3 : v.l.take (i + 1) = v.l.take i ++ [v.l[i]] := by rw [List.take_add_one, List.getElem?_eq_getElem hlt]; rfl
   rw [h3, Qew] at h1
   simpa [vtots] using h1
  refine hr.ld (hle0.trans h2.le) rfl hlt fun z hz => ?_
  intro b6 n6
  refine ⟨_, Heap.put_same .., by simp [Qa.c], ?_⟩
  rw [Heap.put_put]
  have esp : splice (Qa.c Qa.zero) (b6, 0).2 (Qa.c z) = Qa.c z := rfl
  rw [esp]
  have h3 := h2.beside n6 (g := .row (Qa.c z)) (m := true)
  have hle6 := Heap.le_put (h2.le.none n6) (g := .row (Qa.c z)) (m := true)
  refine QV h3 (cs := [1]) rfl rfl (by simp; omega) fun H4 h4 => ?_
  refine bxV (h4.le _ _ (Heap.put_same ..)) ?_
  refine ih _ hmem h4 (hz.le (hle0.trans hle6)) (hB.at hlt) (Qbe hmem hF) (by omega) (by simp; omega) fun H5 h5 => ?_
  rw [Qm (by omega) (by omega)]
  refine ⟨⟨i + 1, by omega, by omega, ?_⟩, by first | omega | (dsimp only; omega)⟩
  rw [hets]
  simpa using h5.down hle6
 ·have hie : i = v.l.length := by have := of_decide_eq_false hc; omega
  subst hie
  rw [List.take_length] at h2 hlt3
  refine QV h2 (cs := [0]) rfl rfl (by simp; omega) fun H4 h4 => k H4 ?_
  rw [QiI]
  simpa using h4.down hle0
theorem Qj3 {b : Nat} {bs : Str} {v : V} {x : TV} {K : Heap → Prop} (ih : ∀ w ∈ v.l, PenV C b w) (h : PenF H0 H b bs 0) (hv : VIs H0 v x) (hB : VB v) (hF : formVs v.l = true) (hs : vtot v < 2147483648) (hm : bs.length + vtots v.l + 2 * v.s.length + 12 ≤ 140737488355328)
 (k : ∀ H2, PenF H0 H2 b (bs ++ (Tx v.s ++ encVs v.l)) 0 → K H2) : Qca C (some (b, 0)) x K H := by
 apply QgG
 unfold Qd2
 intro b1 n1
 have hh := h.beside n1 (g := .row (Qa.c x)) (m := true)
 have hle0 := Heap.le_put (h.le.none n1) (g := .row (Qa.c x)) (m := true)
 have hvt := QhI v
 have htl := QmG v.s
 have hzc := QnW v.s
 refine bxS (Heap.put_same ..) ?_
 rw [hv.txt]
 refine Qhz hh (by omega) fun H2 h2 => ?_
 rw [Qcu] at h2
 refine bxV (h2.le _ _ (Heap.put_same ..)) ?_
 refine Qhy ih h2 (hv.le hle0) hB hF hs (by rw [List.length_append]; omega) fun H3 h3 => k H3 ?_
 rw [← List.append_assoc]
 exact h3.down hle0
theorem QjC {b : Nat} : ∀ v : V, PenV C b v := by
 refine V.rec_ fun v ih => ?_
 intro H0 H bs x K h hv hB hF hs hm k
 obtain ⟨hok, hfl⟩ := mayN v hF
 have hkk := hB.k
 have hk6 := QnQ hok
 have hvt := QhI v
 apply Qgb
 unfold Qdk
 intro b1 n1
 have hh := h.beside n1 (g := .row (Qa.c x)) (m := true)
 have hle1 := Heap.le_put (h.le.none n1) (g := .row (Qa.c x)) (m := true)
 have hb1 : (H0.put b1 (.row (Qa.c x))) b1 = some (true, .row (Qa.c x)) := Heap.put_same ..
 intro b3 n3
 refine ⟨rfl, rfl, _, Heap.put_same .., by simp, ?_⟩
 rw [Heap.put_put]
 have esp : ∀ vs : List Value, vs.length = 7 → splice (List.replicate 7 (.nilFunc : Value)) (b3, 0).2 vs = vs := fun vs hl => by unfold splice; simp [hl]
 rw [esp _ rfl]
 generalize hfs : ([.nilFunc, .func (.func 78) (List.toArray []) (List.toArray []), .func (.func 79) (List.toArray []) (List.toArray []), .func (.func 80) (List.toArray []) (List.toArray []), .func (.func 81) (List.toArray []) (List.toArray []), .func (.func 82) (List.toArray []) (List.toArray []), .func (.func 83) (List.toArray []) (List.toArray [])] : List Value) = fs
 have hh3 := hh.beside n3 (g := .row fs) (m := true)
 have hle3 := Heap.le_put (hh.le.none n3) (g := .row fs) (m := true)
 have hb13 := hle3 _ _ hb1
 have hb3 : ((H0.put b1 (.row (Qa.c x))).put b3 (.row fs)) b3 = some (true, .row fs) := Heap.put_same ..
 generalize H0.put b1 (.row (Qa.c x)) = B1 at *
 generalize B1.put b3 (.row fs) = B at *
 have hleB := hle1.trans hle3
 refine bxK (hh3.le _ _ hb13) ?_
 rw [hv.kind]
 have hkc : v.k = ((UInt8.ofNat v.k.toNat).toNat : Int) := by rw [UInt8.toNat_ofNat']; omega
 refine QV hh3 (cs := [UInt8.ofNat v.k.toNat]) (by simp only [bytesV, List.map_cons, List.map_nil]; rw [← hkc]) rfl (by simp; omega) fun H4 h4 => ?_
 rw [Qcu] at h4
 refine ⟨B, h4.le, bxK hb13 ?_⟩
 rw [hv.kind]
 refine ⟨by omega, by omega, ?_⟩
 have hvB := hv.le hleB
 have hfin : ∀ {e : Str} {H2 : Heap}, PenF B H2 b (bs ++ [UInt8.ofNat v.k.toNat] ++ e) 0 → encV v = UInt8.ofNat v.k.toNat :: e → Heap.le B H2 ∧ K H2 := fun {e H2} h2 he => ⟨h2.le, k H2 (by rw [he]; simpa using h2.down hleB)⟩
 have hev := Qhg v
 have hrd : ∀ {o : Nat} {u : Value}, fs[o]? = some u → rd B ((b3, 0).1, (b3, 0).2 + (o : Int).toNat * 1) = some u := fun {o u} hu => by
  rw [Q7 hb3]; simpa using hu
 have hl1 : (bs ++ [UInt8.ofNat v.k.toNat]).length = bs.length + 1 := by simp
 rcases hk6 with h1 | h1 | h1 | h1 | h1 | h1
 ·rw [h1] at hev ⊢
  refine ⟨_, hrd (o := 1) (by rw [← hfs]; rfl), bxV hb13 ?_⟩
  have hc : QbS C (some (b, 0)) x (fun H24 => Heap.le B H24 ∧ K H24) H4 := QjB h4 hvB (QiV hok h1) (by omega) fun H2 h2 => hfin h2 (by rw [hev, h1]; rfl)
  exact ⟨_, [], [], rfl, Qgj, hc⟩
 ·rw [h1] at hev ⊢
  refine ⟨_, hrd (o := 2) (by rw [← hfs]; rfl), bxV hb13 ?_⟩
  have hc : QbT C (some (b, 0)) x (fun H24 => Heap.le B H24 ∧ K H24) H4 := QjD h4 hvB hB (by omega) fun H2 h2 => hfin h2 (by rw [hev, h1]; rfl)
  exact ⟨_, [], [], rfl, Qgk, hc⟩
 ·rw [h1] at hev ⊢
  refine ⟨_, hrd (o := 3) (by rw [← hfs]; rfl), bxV hb13 ?_⟩
  have hc : QcW C (some (b, 0)) x (fun H24 => Heap.le B H24 ∧ K H24) H4 := QkM h4 hvB (by omega) (by omega) fun H2 h2 => hfin h2 (by rw [hev, h1]; rfl)
  exact ⟨_, [], [], rfl, Qhp, hc⟩
 ·rw [h1] at hev ⊢
  refine ⟨_, hrd (o := 4) (by rw [← hfs]; rfl), bxV hb13 ?_⟩
  have hc : QbU C (some (b, 0)) x (fun H24 => Heap.le B H24 ∧ K H24) H4 := QjE h4 hvB (by omega) fun H2 h2 => hfin h2 (by rw [hev, h1]; rfl)
  exact ⟨_, [], [], rfl, Qgl, hc⟩
 ·rw [h1] at hev ⊢
  refine ⟨_, hrd (o := 5) (by rw [← hfs]; rfl), bxV hb13 ?_⟩
  have hc : Qbn C (some (b, 0)) x (fun H24 => Heap.le B H24 ∧ K H24) H4 := Qhy ih h4 hvB hB hfl hs (by omega) fun H2 h2 => hfin h2 (by rw [hev, h1]; rfl)
  exact ⟨_, [], [], rfl, QdY, hc⟩
 ·rw [h1] at hev ⊢
  refine ⟨_, hrd (o := 6) (by rw [← hfs]; rfl), bxV hb13 ?_⟩
  have hc : Qca C (some (b, 0)) x (fun H24 => Heap.le B H24 ∧ K H24) H4 := Qj3 ih h4 hvB hB hfl hs (by omega) fun H2 h2 => hfin h2 (by rw [hev, h1]; rfl)
  exact ⟨_, [], [], rfl, QgO, hc⟩
theorem QiF {s : Sl} {a : Str} {v : V} {x : TV} {K : Sl → Heap → Prop} (hr : rdsl H s (bytesV a)) (hl : s.len = a.length) (hv : VIs H v x) (hB : VB v) (hs : mayV v = true → vtot v < 2147483648) (hm : a.length ≤ 1000000000000)
 (k : ∀ r H2, OwnF H H2 1 r (bytesV (a ++ if mayV v then encV v else [])) → K r H2) : Qec C s x K H := by
 apply Qit
 unfold QfV
 intro b1 n1
 have hb1 : (H.put b1 (.row (Qa.c x))) b1 = some (true, .row (Qa.c x)) := Heap.put_same ..
 have hle1 := Heap.le_put n1 (g := .row (Qa.c x)) (m := true)
 generalize H.put b1 (.row (Qa.c x)) = H1 at *
 refine QhZ (QaY hle1 hr) hl (by omega) fun b H2 h2 => ?_
 refine ⟨fun _ H3 => PenF H1 H3 b (a ++ if mayV v then encV v else []) 0, ?_, ?_⟩
 ·refine bxV (h2.le _ _ hb1) ?_
  refine Qdb (hv.le (hle1.trans h2.le)) hB ?_
  rw [QiQ]
  refine ift.of (fun h => ?_) (fun h => ?_)
  ·rw [if_pos h]
   exact bxV (h2.le _ _ hb1) (QjC v h2 (hv.le hle1) hB (Qbr h) (hs h) (by have := hs h; omega) fun H3 h3 => h3)
  ·rw [if_neg (by rw [h]; decide), List.append_nil]; exact h2
 ·rintro _ H3 h3
  obtain ⟨r, h4, h5⟩ := h3.take
  exact ⟨_, rfl, r, h4, k r H3 (h5.down hle1)⟩
end
end
section
open Go Go.Proofs
/-- c tells how s and t stand, at a place that both have; 0: P -/
def Ord (c : Int) (s t : Str) (P : Prop) : Prop := (c = -1 ∧ Lt s t) ∨ (c = 1 ∧ Lt t s) ∨ (c = 0 ∧ P)
theorem Ord.pre {c : Int} {s t : Str} {P : Prop} (p : Str) (h : Ord c s t P) : Ord c (p ++ s) (p ++ t) P := by
 rcases h with ⟨h1, h2⟩ | ⟨h1, h2⟩ | h
 ·exact .inl ⟨h1, h2.pre p⟩
 ·exact .inr (.inl ⟨h1, h2.pre p⟩)
 ·exact .inr (.inr h)
theorem Ord.cons {c : Int} {s t : Str} {P : Prop} (p : UInt8) (h : Ord c s t P) : Ord c (p :: s) (p :: t) P := h.pre [p]
theorem Ord.mono {c : Int} {s t : Str} {P Q : Prop} (h : Ord c s t P) (hpq : P → Q) : Ord c s t Q := by
 rcases h with h | h | ⟨h1, h2⟩
 ·exact .inl h
 ·exact .inr (.inl h)
 ·exact .inr (.inr ⟨h1, hpq h2⟩)
theorem QkE : ∀ s t : Str, vcmpS s t = cmpS s t
 | [], [] => rfl
 | [], _ :: _ => rfl
 | _ :: _, [] => rfl
 | a :: s, b :: t => by
  simp only [vcmpS, cmpS]
  rcases Qin a b with h | h | rfl
  ·have hne : a ≠ b := fun e => by subst e; exact Qdq _ h
   have : a.toNat < b.toNat := h
   rw [if_neg hne, if_pos h]; unfold sgn; rw [if_pos (by omega)]
  ·have hne : a ≠ b := fun e => by subst e; exact Qdq _ h
   have h' : b.toNat < a.toNat := h
   rw [if_neg hne, if_neg (Qgq h), if_pos h]; unfold sgn; rw [if_neg (by omega), if_pos (by omega)]
  ·rw [if_pos rfl, if_neg (Qdq a), if_neg (Qdq a)]; exact QkE s t
theorem QlY (s t : Str) : cmpS s t = -1 ∨ cmpS s t = 1 ∨ cmpS s t = 0 := by
 induction s generalizing t with
 | nil => cases t <;> simp [cmpS]
 | cons a s ih =>
  cases t with
  | nil => simp [cmpS]
  | cons b t =>
   simp only [cmpS]
   split
   ·simp
   ·split
    ·simp
    ·exact ih t
theorem QmP (s t : Str) : Ord (vcmpS s t) (Tx s) (Tx t) (s = t) := by
 rw [QkE]
 rcases QlY s t with h | h | h
 ·exact .inl ⟨h, QmX s t (by omega)⟩
 ·exact .inr (.inl ⟨h, QmX t s (by rw [Qjp]; omega)⟩)
 ·exact .inr (.inr ⟨h, (Qi6 s t).2.1 h⟩)
theorem Qlm : ∀ {s t : Str}, s.length = t.length → Ord (vcmpS s t) s t (s = t)
 | [], [], _ => .inr (.inr ⟨rfl, rfl⟩)
 | a :: s, b :: t, h => by
  have ih := Qlm (s := s) (t := t) (by simpa using h)
  simp only [vcmpS]
  rcases Qin a b with h | h | rfl
  ·have hne : a ≠ b := fun e => by subst e; exact Qdq _ h
   have h' : a.toNat < b.toNat := h
   rw [if_neg hne]
   exact .inl ⟨by unfold sgn; rw [if_pos (by omega)], .head h⟩
  ·have hne : a ≠ b := fun e => by subst e; exact Qdq _ h
   have h' : b.toNat < a.toNat := h
   rw [if_neg hne]
   exact .inr (.inl ⟨by unfold sgn; rw [if_neg (by omega), if_pos (by omega)], .head h⟩)
  ·rw [if_pos rfl]
   exact (ih.cons a).mono fun e => by rw [e]
theorem QiZ {a b : Int} {s t : Str} (h1 : a < b → Lt s t) (h2 : b < a → Lt t s) : Ord (sgn a b) s t (a = b) := by
 unfold sgn
 by_cases h : a < b
 ·rw [if_pos h]; exact .inl ⟨rfl, h1 h⟩
 ·rw [if_neg h]
  by_cases h' : b < a
  ·rw [if_pos h']; exact .inr (.inl ⟨rfl, h2 h'⟩)
  ·rw [if_neg h']; exact .inr (.inr ⟨rfl, by omega⟩)
/-- digits behind how many they are -/
theorem QnS {a b : Str} (ha : a.length < 2147483648) (hb : b.length < 2147483648) : Ord (cmpD a b) (numB 0 a.length ++ a) (numB 0 b.length ++ b) (a = b) := by
 unfold cmpD
 by_cases h : a.length = b.length
 ·rw [if_pos h, h]
  exact (Qlm h).pre _
 ·rw [if_neg h]
  have := QiZ (a := (a.length : Int)) (b := (b.length : Int)) (s := numB 0 a.length ++ a) (t := numB 0 b.length ++ b) (fun hl => (QiU (by omega) (by omega) (by omega)).app a b) (fun hl => (QiU (by omega) (by omega) (by omega)).app b a)
  exact this.mono fun e => absurd e (by omega)
theorem QnR {a b : Str} (ha : a.length < 2147483648) (hb : b.length < 2147483648) : Ord (cmpB a b) (Bg a) (Bg b) (a = b) := by
 unfold cmpB Bg
 have hua := Qjb a
 have hub := Qjb b
 cases hma : isMin a with
 | false =>
  cases hmb : isMin b with
  | false =>
   rw [QiL hma, QiL hmb]
   exact (QnS ha hb).cons 128
  | true => exact .inr (.inl ⟨rfl, .head (by decide)⟩)
 | true =>
  cases hmb : isMin b with
  | false => exact .inl ⟨rfl, .head (by decide)⟩
  | true =>
   obtain ⟨h1, h2⟩ := Qhk hma
   obtain ⟨h3, h4⟩ := Qhk hmb
   rw [h1] at hua ⊢
   rw [h3] at hub ⊢
   have := (QnS (a := b.tail) (b := a.tail) (by omega) (by omega)).cons 128
   rcases this with ⟨g1, g2⟩ | ⟨g1, g2⟩ | ⟨g1, g2⟩
   ·exact .inl ⟨g1, g2.flip⟩
   ·exact .inr (.inl ⟨g1, g2.flip⟩)
   ·exact .inr (.inr ⟨g1, by rw [h2, h4, g2]⟩)
theorem QjY (v : V) : encV v ≠ [] := by rw [Qhg]; simp
theorem Qkp : ∀ (l m : List V), (∀ v ∈ l, ∀ w ∈ m, Ord (cmpV v w) (encV v) (encV w) (v = w)) → Ord (cmpVs l m) (encVs l) (encVs m) (l = m)
 | [], [], _ => .inr (.inr ⟨rfl, rfl⟩)
 | [], w :: m, _ => .inl ⟨rfl, .head (by decide)⟩
 | v :: l, [], _ => .inr (.inl ⟨rfl, .head (by decide)⟩)
 | v :: l, w :: m, h => by
  have h1 := h v (List.mem_cons_self ..) w (List.mem_cons_self ..)
  have h2 := Qkp l m fun a ha b hb => h a (List.mem_cons_of_mem _ ha) b (List.mem_cons_of_mem _ hb)
  simp only [cmpVs, encVs]
  rcases h1 with ⟨g1, g2⟩ | ⟨g1, g2⟩ | ⟨g1, g2⟩
  ·rw [g1]; exact .inl ⟨by simp, .tail (g2.app _ _)⟩
  ·rw [g1]; exact .inr (.inl ⟨by simp, .tail (g2.app _ _)⟩)
  ·subst g2
   rw [g1]
   simp only [ne_eq, not_true_eq_false, if_false]
   exact ((h2.pre (encV v)).cons 1).mono fun e => by rw [e]
theorem V.ext {v w : V} (h1 : v.k = w.k) (h2 : v.n = w.n) (h3 : v.s = w.s) (h4 : v.l = w.l) : v = w := by
 obtain ⟨k, n, s, l⟩ := v
 obtain ⟨k', n', s', l'⟩ := w
 simp only [V.k, V.n, V.s, V.l] at h1 h2 h3 h4
 rw [h1, h2, h3, h4]
theorem QmO {k n : Int} {s : Str} {m : Nat} (h : okN k n s m = true) : (k = 1 ∨ k = 2 → s = [] ∧ m = 0) ∧ (k = 3 ∨ k = 4 → n = 0 ∧ m = 0) ∧ (k = 5 → n = 0 ∧ s = []) ∧ (k = 6 → n = 0) := by
 unfold okN at h
 refine ⟨fun hk => ?_, fun hk => ?_, fun hk => ?_, fun hk => ?_⟩
 ·rcases hk with rfl | rfl
  ·simp at h; exact ⟨h.1.2, h.2⟩
  ·simp at h; exact h
 ·rcases hk with rfl | rfl
  ·simp at h; exact ⟨h.1.2, h.2⟩
  ·simp at h; exact h
 ·subst hk; simp at h; exact h.1
 ·subst hk; simp at h; exact h.1
theorem Qn0 (v w : V) (hB : VB v) (hB2 : VB w) (hF : formV v = true) (hF2 : formV w = true) (hs : vtot v < 2147483648) (hs2 : vtot w < 2147483648) : Ord (cmpV v w) (encV v) (encV w) (v = w) := by
 refine V.rec_ (P := fun v => ∀ w, VB v → VB w → formV v = true → formV w = true → vtot v < 2147483648 → vtot w < 2147483648 → Ord (cmpV v w) (encV v) (encV w) (v = w)) (fun v ih => ?_) v w hB hB2 hF hF2 hs hs2
 clear hB hB2 hF hF2 hs hs2
 intro w hB hB2 hF hF2 hs hs2
 obtain ⟨ok1, fl1⟩ := mayN v hF
 obtain ⟨ok2, fl2⟩ := mayN w hF2
 obtain ⟨a1, a2, a3, a4⟩ := QmO ok1
 obtain ⟨b1, b2, b3, b4⟩ := QmO ok2
 have hk1 := hB.k
 have hk2 := hB2.k
 rw [QhI] at hs hs2
 rw [Qhb, Qhg, Qhg]
 by_cases hkk : v.k = w.k
 rotate_left
 ·rw [if_pos hkk]
  refine (QiZ (fun h => .head ?_) (fun h => .head ?_)).mono fun e => absurd e hkk
  ·show (UInt8.ofNat _).toNat < (UInt8.ofNat _).toNat
   rw [UInt8.toNat_ofNat', UInt8.toNat_ofNat']; omega
  ·show (UInt8.ofNat _).toNat < (UInt8.ofNat _).toNat
   rw [UInt8.toNat_ofNat', UInt8.toNat_ofNat']; omega
 rw [if_neg (by simp [hkk]), ← hkk]
 refine Ord.cons _ ?_
 have hl : Ord (cmpVs v.l w.l) (encVs v.l) (encVs w.l) (v.l = w.l) := Qkp v.l w.l fun p hp q hq => ih p hp q (hB.ls.mem hp) (hB2.ls.mem hq) (Qbe hp fl1) (Qbe hq fl2) (by have := Qdr hp; omega) (by have := Qdr hq; omega)
 have nil0 : ∀ {l : List V}, l.length = 0 → l = [] := fun h => List.length_eq_zero_iff.1 h
 rcases QnQ ok1 with h | h | h | h | h | h
 ·obtain ⟨c1, c2⟩ := a1 (.inl h)
  obtain ⟨d1, d2⟩ := b1 (.inl (by omega))
  rw [if_neg (by omega), if_neg (by omega), if_neg (by omega), if_neg (by omega), if_pos h, if_pos h]
  have n1 := QiV ok1 h
  have n2 := QiV ok2 (by omega)
  refine (QiZ (fun hh => ?_) (fun hh => ?_)).mono fun e => V.ext hkk e (by rw [c1, d1]) (by rw [nil0 c2, nil0 d2])
  ·have e1 : v.n = 0 := by omega
   have e2 : w.n = 1 := by omega
   rw [e1, e2]; exact .head (by decide)
  ·have e1 : v.n = 1 := by omega
   have e2 : w.n = 0 := by omega
   rw [e1, e2]; exact .head (by decide)
 ·obtain ⟨c1, c2⟩ := a1 (.inr h)
  obtain ⟨d1, d2⟩ := b1 (.inr (by omega))
  rw [if_neg (by omega), if_neg (by omega), if_neg (by omega), if_neg (by omega), if_neg (by omega), if_pos h, if_neg (by omega), if_pos h]
  exact (QiZ (fun hh => QnD hB.n.1 hB2.n.2 hh) (fun hh => QnD hB2.n.1 hB.n.2 hh)).mono fun e => V.ext hkk e (by rw [c1, d1]) (by rw [nil0 c2, nil0 d2])
 ·obtain ⟨c1, c2⟩ := a2 (.inl h)
  obtain ⟨d1, d2⟩ := b2 (.inl (by omega))
  rw [if_pos h, if_neg (by omega), if_neg (by omega), if_pos h, if_neg (by omega), if_neg (by omega), if_pos h]
  exact (QnR (by omega) (by omega)).mono fun e => V.ext hkk (by rw [c1, d1]) e (by rw [nil0 c2, nil0 d2])
 ·obtain ⟨c1, c2⟩ := a2 (.inr h)
  obtain ⟨d1, d2⟩ := b2 (.inr (by omega))
  rw [if_neg (by omega), if_pos h, if_neg (by omega), if_neg (by omega), if_neg (by omega), if_pos h, if_neg (by omega), if_neg (by omega), if_neg (by omega), if_pos h]
  exact (QmP v.s w.s).mono fun e => V.ext hkk (by rw [c1, d1]) e (by rw [nil0 c2, nil0 d2])
 ·obtain ⟨c1, c2⟩ := a3 h
  obtain ⟨d1, d2⟩ := b3 (by omega)
  rw [if_neg (by omega), if_neg (by omega), if_pos h, if_neg (by omega), if_neg (by omega), if_neg (by omega), if_neg (by omega), if_pos h, if_neg (by omega), if_neg (by omega), if_neg (by omega), if_neg (by omega), if_pos h]
  exact hl.mono fun e => V.ext hkk (by rw [c1, d1]) (by rw [c2, d2]) e
 ·have c1 := a4 h
  have d1 := b4 (by omega)
  rw [h]
  show Ord (if vcmpS v.s w.s ≠ 0 then vcmpS v.s w.s else cmpVs v.l w.l) (Tx v.s ++ encVs v.l) (Tx w.s ++ encVs w.l) (v = w)
  rcases QmP v.s w.s with ⟨g1, g2⟩ | ⟨g1, g2⟩ | ⟨g1, g2⟩
  ·rw [g1]; exact .inl ⟨by simp, g2.app _ _⟩
  ·rw [g1]; exact .inr (.inl ⟨by simp, g2.app _ _⟩)
  ·rw [g1, g2]
   simp only [ne_eq, not_true_eq_false, if_false]
   exact (hl.pre _).mono fun e => V.ext hkk (by rw [c1, d1]) g2 e
/-- how the bytes stand, whatever stands behind -/
theorem Ord.cmp {c : Int} {s t : Str} {P : Prop} (h : Ord c s t P) (hp : P → s = t) : cmpS s t = c ∧ (c ≠ 0 → ∀ x y, cmpS (s ++ x) (t ++ y) = c) := by
 rcases h with ⟨rfl, h⟩ | ⟨rfl, h⟩ | ⟨rfl, h⟩
 ·exact ⟨h.cmp.1, fun _ x y => (h.app x y).cmp.1⟩
 ·exact ⟨h.cmp.2, fun _ x y => (h.app y x).cmp.2⟩
 ·exact ⟨(Qi6 s t).2.2 (hp h), fun h => absurd rfl h⟩
end
section
open Go Go.Proofs
section
variable {C : Ctx} {H : Heap}
theorem QkT {A : Heap} {l : List V} {t : Sl} {H : Heap} {K : Sl → Heap → Prop} (hv : VRow A t l) (hle : A.le H) (hz : vsizes l ≤ 1000000) (k : ∀ t2 H2, Made H H2 l t2 → K t2 H2) : QaH C t K H := by
 have main : ∀ v : V, ∀ (A : Heap) (t : Sl) (H : Heap) (K : Sl → Heap → Prop), VRow A t v.l → A.le H → vsizes v.l ≤ 1000000 → (∀ t2 H2, Made H H2 v.l t2 → K t2 H2) → QaH C t K H := by
  refine fun v => V.rec_ (P := fun v => ∀ (A : Heap) (t : Sl) (H : Heap) (K : Sl → Heap → Prop), VRow A t v.l → A.le H → vsizes v.l ≤ 1000000 → (∀ t2 H2, Made H H2 v.l t2 → K t2 H2) → QaH C t K H) (fun v ih => ?_) v
  intro A t H K hv hle hz k
  apply Qjh
  unfold QgA
  have hl := hv.len
  have hll := Qgr v.l
  refine ⟨fun x D => ∃ (s : Sl) (ys : List TV), x = (s, (ys.length : Int)) ∧ Od H D v.l s ys, fun x _ => v.l.length - x.2.toNat,
   ⟨Sl.nil, [], rfl, Od.nil⟩, ?_⟩
  rintro _ D ⟨s, ys, rfl, ho⟩
  rw [hl]
  refine ift.of (fun h => ?_) (fun h => ?_)
  ·have hlt : ys.length < v.l.length := by have := of_decide_eq_true h; dsimp only at this; omega
   have hleD := hle.trans ho.own.le
   refine hv.ld hleD rfl hlt fun x hx => ?_
   have hmem := List.getElem_mem hlt
   have hsz := Qby hmem
   have hszl : vsize v.l[ys.length] = vsizes v.l[ys.length].l + 1 := by cases v.l[ys.length]; rfl
   have hxi := Qds.1 hx
   intro b12 n12
   refine ⟨_, Heap.put_same .., by simp [Qa.c], ?_⟩
   rw [Heap.put_put]
   have hc : splice (Qa.c Qa.zero) (b12, 0).2 (Qa.c x) = Qa.c x := rfl
   rw [hc]
   show ldL (D.put b12 (.row (Qa.c x))) _ _
   refine ⟨x.L, by rw [Qj5]; rfl, ?_⟩
   refine ih _ hmem A _ _ _ hxi.2.2.2 (hleD.trans (Heap.le_put n12)) (by omega) fun t2 H2 hm => ?_
   refine ⟨_, hm.le _ _ (Heap.put_same ..), by show 0 + 3 < 4; omega, ?_⟩
   show ldT (H2.put b12 (.row ((Qa.c x).set (0 + 3) (slv t2)))) Qa.c (b12, 0) _
   have hc2 : (Qa.c x).set (0 + 3) (slv t2) = Qa.c { x with L := t2 } := rfl
   rw [hc2]
   refine ⟨{ x with L := t2 }, QdR (Heap.put_same ..) fun j v hj => by simpa using hj, ?_⟩
   have hown : Own (H2.put b12 (.row (Qa.c { x with L := t2 }))) 4 s (ys.flatMap Qa.c) := by
    obtain ⟨q1, q2, q3, q4⟩ := ho.own.own
    refine ⟨q1, q2, q3, q4.imp id fun ⟨b, sp, p1, p2, p3⟩ => ⟨b, sp, p1, ?_, p3⟩⟩
    have hne : b ≠ b12 := fun e => by rw [e, n12] at p2; cases p2
    rw [Heap.put_ne _ _ _ hne]
    exact hm.le _ _ (by rw [Heap.put_ne _ _ _ hne]; exact p2)
   have hf := flat4 ys
   have hsl : s.len = ys.length := by have := ho.own.own.1; omega
   refine Qb4 (zc := Qa.c Qa.zero) hown.off rfl (by dsimp only; omega) (by dsimp only; omega) fun r H3 h4 hr => ?_
   rw [Qm (by omega) (by omega)]
   have hs := ho.step n12 hlt hm (x := { x with L := t2 }) ⟨hxi.1, hxi.2.1, hxi.2.2.1⟩ rfl (fun z e hz he => by rw [Heap.put_ne _ _ _ hz]; exact he) h4
   refine ⟨⟨r, ys ++ [{ x with L := t2 }], ?_, hs⟩, by first | omega | (dsimp only; omega)⟩
   rw [List.length_append, List.length_singleton]; rfl
  ·have hn : ys.length = v.l.length := by
    have := of_decide_eq_false h; dsimp only at this
    have := ho.le
    omega
   exact k _ _ (ho.fin hn (by omega))
 exact main (.mk 0 0 [] l) A t H K hv hle hz k
/-- what writes over: all that is not N's stays, and what may be written over may still be -/
theorem QkB {N : Nat → Prop} {k : Nat} {t : Sl} {H : Heap} {K : Heap → Prop} (h : Sp N H k t)
 (hk : ∀ H2, (∀ c, ¬ N c → H2 c = H c) → (∀ k t, Sp N H k t → Sp N H2 k t) → K H2) : Qw C t K H := by
 have nil : ∀ {t : Sl} {H : Heap} {K : Heap → Prop}, t.len = 0 → K H → Qw C t K H := by
  intro t H K h0 hk
  apply QeK
  unfold Qda
  rw [h0]
  refine ⟨fun x D => x = 0 ∧ D = H, fun _ _ => 0, ⟨rfl, rfl⟩, ?_⟩
  rintro _ _ ⟨rfl, rfl⟩
  exact Qd rfl hk
 induction k generalizing t H K with
 | zero => exact nil h (hk H (fun _ _ => rfl) fun _ _ h => h)
 | succ k ih =>
  by_cases h0 : t.len = 0
  ·exact nil h0 (hk H (fun _ _ => rfl) fun _ _ h => h)
  have cells : ∀ {D : Heap}, Sp N D (k + 1) t → ∃ (b : Nat) (xs : List TV) (sp : List Value), N b ∧ t.p = some (b, 0) ∧ t.x = none ∧ D b = some (true, .row (xs.flatMap Qa.c ++ sp)) ∧ (t.len ≤ xs.length ∧ xs.length ≤ 1000000) ∧ ∀ x ∈ xs, Sp N D k x.L := fun h => h.elim (fun h => absurd h h0) id
  have hlen : t.len ≤ 1000000 := by obtain ⟨b, xs, sp, _, _, _, _, h5, _⟩ := cells h; omega
  apply QeK
  unfold Qda
  refine ⟨fun x D => ∃ i : Nat, x = (i : Int) ∧ i ≤ t.len ∧ (∀ c, ¬ N c → D c = H c) ∧ ∀ k t, Sp N H k t → Sp N D k t, fun x _ => t.len - x.toNat, ⟨0, rfl, Nat.zero_le _, fun _ _ => rfl, fun _ _ h => h⟩, ?_⟩
  rintro _ D ⟨i, rfl, hi, hD, hS⟩
  refine ift.of (fun hlt => ?_) (fun hlt => hk D hD hS)
  have hlt : i < t.len := by have := of_decide_eq_true hlt; omega
  obtain ⟨b, xs, sp, h1, h2, h3, h4, h5, h6⟩ := cells (hS _ _ h)
  have hix : i < xs.length := by omega
  have e0 : 0 + ((i : Int).toNat) * 4 + 3 = i * 4 + 3 := by omega
  have hf := flat4 xs
  refine ⟨(b, 0), h2, h3, by omega, by omega, xs[i].L, ?_, ?_⟩
  ·show rd _ (b, 0 + ((i : Int).toNat) * 4 + 3) = _
   rw [e0]
   simp only [rd, h4, GO.cells?]
   show (List.flatMap Qa.c xs ++ sp)[i * 4 + 3]? = _
   rw [List.getElem?_append_left (by omega)]
   exact Qez Qa.c 4 TV.c_len xs i _ (List.getElem?_eq_getElem hix) 3 _ rfl
  refine ih (h6 _ (List.getElem_mem hix)) fun D2 hD2 hS2 => ?_
  obtain ⟨b', xs2, sp2, g1, g2, g3, g4, g5, g6⟩ := cells (hS2 _ _ (hS _ _ h))
  have hb : b' = b := by rw [h2] at g2; injection g2 with g2; injection g2 with g2; exact g2.symm
  subst hb
  have hf2 := flat4 xs2
  have e1 : 0 + ((i : Int).toNat) * 4 = i * 4 := by omega
  refine ⟨(b', 0), h2, h3, by omega, by omega, _, g4, ?_, ?_⟩
  ·show 0 + ((i : Int).toNat) * 4 + (Qa.c _).length ≤ _
   rw [e1, TV.c_len, List.length_append, hf2]; omega
  rw [Qm (by omega) (by omega)]
  refine ⟨⟨i + 1, by omega, by omega, fun c hc => ?_, fun k t hs => ?_⟩, by first | omega | (dsimp only; omega)⟩
  ·have hne : c ≠ b' := fun e => hc (e ▸ g1)
   rw [Heap.put_ne _ _ _ hne, hD2 c hc, hD c hc]
  ·show Sp N (D2.put b' (.row (splice _ (0 + ((i : Int).toNat) * 4) _))) k t
   rw [e1]
   exact Sp.put g4 rfl (hS2 _ _ (hS _ _ hs))
end
end
section
open Go Go.Proofs
section
variable {C : Ctx} {H : Heap}
theorem Qng {A D : Heap} {v : V} {x : TV} {K : TV → Heap → Prop} (ho : ∀ (t : Sl) (H : Heap) (K : Sl → Heap → Prop), VRow A t v.l → A.le H → (∀ t2 H2, Made H H2 v.l t2 → K t2 H2) → QZ C t K H) (hx : VIs A v x) (hA : A.le D)
 (k : ∀ t2 H2, Made D H2 v.l t2 → K { x with L := t2 } H2) : Qa9 C x K D := by
 apply Qa9.gh
 apply Qjg
 unfold Qgz
 intro b1 n1 b3 n3
 have ne : b3 ≠ b1 := fun e => by rw [e, Heap.put_same] at n3; cases n3
 have n3' : D b3 = none := by rw [Heap.put_ne _ _ _ ne] at n3; exact n3
 have l1 := Heap.le_put n1 (g := .row (Qa.c x)) (m := true)
 have l3 := Heap.le_put n3 (g := .row (Qa.c Qa.zero)) (m := true)
 have lE := l1.trans l3
 have c1 : ((D.put b1 (.row (Qa.c x))).put b3 (.row (Qa.c Qa.zero))) b1 = some (true, .row (Qa.c x)) := by rw [Heap.put_ne _ _ _ ne.symm, Heap.put_same]
 have c3 : ((D.put b1 (.row (Qa.c x))).put b3 (.row (Qa.c Qa.zero))) b3 = some (true, .row (Qa.c Qa.zero)) := Heap.put_same ..
 generalize (D.put b1 (.row (Qa.c x))).put b3 (.row (Qa.c Qa.zero)) = E at *
 refine fL c1 (t := x.L) rfl ?_
 refine ho _ _ _ (Qds.1 hx).2.2.2 (hA.trans lE) fun t2 H2 hm => ?_
 refine ⟨_, hm.le _ _ c1, by show 0 + 3 < 4; omega, ?_⟩
 show ldT (H2.put b1 (.row ((Qa.c x).set (0 + 3) (slv t2)))) Qa.c (b1, 0) _
 have hc2 : (Qa.c x).set (0 + 3) (slv t2) = Qa.c { x with L := t2 } := rfl
 rw [hc2]
 refine bxT (c := Qa.c) (x := { x with L := t2 }) (Heap.put_same ..) ?_
 refine ⟨Qa.c Qa.zero, by rw [Heap.put_ne _ _ _ ne]; exact hm.le _ _ c3, by simp [Qa.c], ?_⟩
 have hc3 : splice (Qa.c Qa.zero) (b3, 0).2 (Qa.c { x with L := t2 }) = Qa.c { x with L := t2 } := rfl
 rw [hc3]
 refine bxT (c := Qa.c) (x := { x with L := t2 }) (Heap.put_same ..) ?_
 have keep : ∀ {z : Nat} {e : Bool × GO}, z ≠ b1 → z ≠ b3 → H2 z = some e → ((H2.del b1).del b3) z = some e := fun h1 h3 hz => by
  rw [Heap.del_ne _ h3, Heap.del_ne _ h1]; exact hz
 have neE : ∀ {z : Nat}, E z = none → z ≠ b1 ∧ z ≠ b3 := fun hz => ⟨fun e => (by rw [e, c1] at hz; cases hz), fun e => (by rw [e, c3] at hz; cases hz)⟩
 have neD : ∀ {z : Nat} {e : Bool × GO}, D z = some e → z ≠ b1 ∧ z ≠ b3 := fun hz => ⟨fun e => (by rw [e, n1] at hz; cases hz), fun e => (by rw [e, n3'] at hz; cases hz)⟩
 refine ⟨(H2.del b1).del b3, Gh.le fun z e hz => ?_, k t2 _ ⟨fun z e hz => ?_, hm.row.le fun z e hz => ?_, ?_, hm.cp⟩⟩
 ·have h3 : z ≠ b3 := fun e => by rw [e, Heap.del_same] at hz; cases hz
  rw [Heap.del_ne _ h3] at hz
  have h1 : z ≠ b1 := fun e => by rw [e, Heap.del_same] at hz; cases hz
  rw [Heap.del_ne _ h1] at hz
  rw [Heap.put_ne _ _ _ h3, Heap.put_ne _ _ _ h1]; exact hz
 ·obtain ⟨h1, h3⟩ := neD hz
  exact keep h1 h3 (hm.le _ _ (lE _ _ hz))
 ·obtain ⟨q1, q2⟩ := Heap.new_inv hz
  obtain ⟨h1, h3⟩ := neE q1
  exact Heap.new_some (keep h1 h3 q2) (lE.none q1)
 ·obtain ⟨j, hj⟩ := hm.sp
  refine ⟨j, hj.to fun z e hz he => ?_⟩
  obtain ⟨h1, h3⟩ := neE hz
  exact ⟨lE.none hz, keep h1 h3 he⟩
theorem Qkq {A : Heap} {l : List V} {t : Sl} {H : Heap} {K : Sl → Heap → Prop} (hv : VRow A t l) (hle : A.le H) (hz : vsizes l ≤ 1000000) (k : ∀ t2 H2, Made H H2 l t2 → K t2 H2) : QZ C t K H := by
 have main : ∀ v : V, ∀ (A : Heap) (t : Sl) (H : Heap) (K : Sl → Heap → Prop), VRow A t v.l → A.le H → vsizes v.l ≤ 1000000 → (∀ t2 H2, Made H H2 v.l t2 → K t2 H2) → QZ C t K H := by
  refine fun v => V.rec_ (P := fun v => ∀ (A : Heap) (t : Sl) (H : Heap) (K : Sl → Heap → Prop), VRow A t v.l → A.le H → vsizes v.l ≤ 1000000 → (∀ t2 H2, Made H H2 v.l t2 → K t2 H2) → QZ C t K H) (fun v ih => ?_) v
  intro A t H K hv hle hz k
  apply QhO
  unfold QeU
  have hl := hv.len
  have hll := Qgr v.l
  refine ⟨fun x D => ∃ (s : Sl) (ys : List TV), x = (s, (ys.length : Int)) ∧ Od H D v.l s ys, fun x _ => v.l.length - x.2.toNat,
   ⟨Sl.nil, [], rfl, Od.nil⟩, ?_⟩
  rintro _ D ⟨s, ys, rfl, ho⟩
  rw [hl]
  refine ift.of (fun h => ?_) (fun h => ?_)
  ·have hlt : ys.length < v.l.length := by have := of_decide_eq_true h; dsimp only at this; omega
   have hleD := hle.trans ho.own.le
   refine hv.ld hleD rfl hlt fun x hx => ?_
   have hmem := List.getElem_mem hlt
   have hsz := Qby hmem
   have hszl : vsize v.l[ys.length] = vsizes v.l[ys.length].l + 1 := by cases v.l[ys.length]; rfl
   have hxi := Qds.1 hx
   intro b12 n12
   refine nwT rfl ?_
   have l12 := Heap.le_put n12 (g := .row (Qa.c x)) (m := true)
   refine bxT (c := Qa.c) (x := x) (Heap.put_same ..) ?_
   refine Qng (A := A) (fun t H K q1 q2 q3 => ih _ hmem A t H K q1 q2 (by omega) q3) hx (hleD.trans l12) fun t2 H2 hm => ?_
   have hown : Own H2 4 s (ys.flatMap Qa.c) := ho.own.own.le (l12.trans hm.le)
   have hf := flat4 ys
   have hsl : s.len = ys.length := by have := ho.own.own.1; omega
   refine Qb4 (zc := Qa.c Qa.zero) hown.off rfl (by dsimp only; omega) (by dsimp only; omega) fun r H3 h4 hr => ?_
   rw [Qm (by omega) (by omega)]
   have hs := ho.step n12 hlt hm (x := { x with L := t2 }) ⟨hxi.1, hxi.2.1, hxi.2.2.1⟩ rfl (Heap.but.refl _ _) (by rw [List.append_nil] at h4; exact h4)
   refine ⟨⟨r, ys ++ [{ x with L := t2 }], ?_, hs⟩, by first | omega | (dsimp only; omega)⟩
   rw [List.length_append, List.length_singleton]; rfl
  ·have hn : ys.length = v.l.length := by
    have := of_decide_eq_false h; dsimp only at this
    have := ho.le
    omega
   exact k _ _ (ho.fin hn (by omega))
 exact main (.mk 0 0 [] l) A t H K hv hle hz k
end
end
section
open Go Go.Proofs
/-- the bytes of a row's values, one behind the other -/
def keyB (l : List V) : Str := l.flatMap encV
theorem Qle {l : List V} {i : Nat} (h : i < l.length) : keyB (l.take (i + 1)) = keyB (l.take i) ++ encV l[i] := by
 unfold keyB
 rw [List.take_add_one, List.getElem?_eq_getElem h, Option.toList_some, List.flatMap_append, List.flatMap_singleton]
theorem Qkl {m : Nat} : ∀ (l : List V), (∀ v ∈ l, (encV v).length ≤ m) → (keyB l).length ≤ l.length * m
 | [], _ => by simp [keyB]
 | v :: l, h => by
  have h1 := h v (List.mem_cons_self ..)
  have h2 := Qkl l fun w hw => h w (List.mem_cons_of_mem _ hw)
  unfold keyB at *
  rw [List.flatMap_cons, List.length_append, List.length_cons, Nat.add_mul]; omega
/-- values that a key may be made of -/
def fineV (l : List V) : Prop := VBs l ∧ l.length ≤ 10000 ∧ ∀ v ∈ l, vtot v ≤ 14000000
section
variable {C : Ctx} {H A : Heap}
theorem Qjs {s : Sl} {l : List V} {K : Str → Bool → Heap → Prop} (hv : VRow A s l) (hA : A.le H) (hf : fineV l) (k1 : mayR l = true → ∀ H2, H.le H2 → K (keyB l) true H2) (k0 : mayR l = false → ∀ H2, H.le H2 → K [] false H2) : Qa8 C s K H := by
 obtain ⟨hB, hn, hz⟩ := hf
 apply Qjf
 unfold Qgy
 have henc : ∀ v, VB v → vtot v ≤ 14000000 → (encV v).length ≤ 14000000 := fun v hv h => by have := Qki v hv (by omega); omega
 have hcl : ∀ i, (keyB (l.take i)).length ≤ 140000000000 := fun i => by
  have h1 := Qkl (m := 14000000) (l.take i) fun w hw => henc w (hB.mem (List.mem_of_mem_take hw)) (hz w (List.mem_of_mem_take hw))
  have h2 : (l.take i).length ≤ 10000 := by rw [List.length_take]; omega
  have h3 := Nat.mul_le_mul_right 14000000 h2
  omega
 refine ⟨fun y D => ∃ i : Nat, y.2 = (i : Int) ∧ i ≤ l.length ∧ OwnF H D 1 y.1 (bytesV (keyB (l.take i))) ∧ (l.take i).all mayV = true, fun y _ => l.length - y.2.toNat, ⟨0, rfl, Nat.zero_le _, OwnF.nil H 1, rfl⟩, ?_⟩
 rintro ⟨a, _⟩ D ⟨i, rfl, hi, ho, hmay⟩
 have hAD := hA.trans ho.le
 rw [hv.len]
 refine ift.of (fun h => ?_) (fun h => ?_)
 ·have hlt : i < l.length := by have := of_decide_eq_true h; dsimp only at this; omega
  have hmem := List.getElem_mem hlt
  have hzi := hz _ hmem
  have hBi := hB.mem hmem
  have hct := Qle hlt
  have hll := hcl i
  refine hv.ld hAD rfl hlt fun z hz => ?_
  intro b6 n6
  refine nwT rfl ?_
  have hle6 := Heap.le_put n6 (g := .row (Qa.c z)) (m := true)
  have hb6 : (D.put b6 (.row (Qa.c z))) b6 = some (true, .row (Qa.c z)) := Heap.put_same ..
  have hz6 := hz.le (hAD.trans hle6)
  have ho6 := ho.up hle6
  generalize D.put b6 (.row (Qa.c z)) = H3 at *
  refine bxV hb6 (Qdb hz6 hBi ?_)
  have hck : ((checkV l[i] : Int) != 0) = !(mayV l[i]) := by unfold mayV; rfl
  rw [hck]
  refine ift.of (fun h2 => ?_) (fun h2 => ?_)
  ·have h2 : mayV l[i] = false := by simpa using h2
   refine k0 ?_ H3 ho6.le
   unfold mayR
   rw [List.all_eq_false]
   exact ⟨l[i], hmem, by simp [h2]⟩
  ·have hmv : mayV l[i] = true := by simpa using h2
   refine bxV hb6 (QiF ho6.own.rdsl ho6.lenB hz6 hBi (fun _ => by omega) (by omega) fun r H4 h4 => ?_)
   rw [if_pos hmv, ← hct] at h4
   rw [Qm (by dsimp only; omega) (by dsimp only; omega)]
   refine ⟨⟨i + 1, by dsimp only; omega, by omega, h4.down ho6.le, ?_⟩, by first | omega | (dsimp only; omega)⟩
   rw [List.take_add_one, List.getElem?_eq_getElem hlt, List.all_append, hmay]
   simp [hmv]
 ·have hie : i = l.length := by have := of_decide_eq_false h; dsimp only at this; omega
  subst hie
  rw [List.take_length] at ho hmay
  exact QnI ho.own.rdsl ho.lenB (k1 hmay D ho.le)
end
end
section
open Go Go.Proofs
theorem Qk8 {v w : V} {x y : Str} (hB : VB v) (hB2 : VB w) (hF : formV v = true) (hF2 : formV w = true) (hs : vtot v < 2147483648) (hs2 : vtot w < 2147483648) (h : encV v ++ x = encV w ++ y) : v = w ∧ x = y := by
 have ho := Qn0 v w hB hB2 hF hF2 hs hs2
 by_cases hc : cmpV v w = 0
 ·have hvw : v = w := by
   rcases ho with ⟨h1, _⟩ | ⟨h1, _⟩ | ⟨_, h1⟩
   ·omega
   ·omega
   ·exact h1
  subst hvw
  exact ⟨rfl, List.append_cancel_left h⟩
 ·have h1 := (ho.cmp fun e => by rw [e]).2 hc x y
  rw [h, (Qi6 (encV w ++ y) (encV w ++ y)).2.2 rfl] at h1
  exact absurd h1.symm hc
theorem QiN : ∀ {l m : List V}, VBs l → VBs m → mayR l = true → mayR m = true → (∀ v ∈ l, vtot v ≤ 14000000) → (∀ v ∈ m, vtot v ≤ 14000000) → keyB l = keyB m → l = m
 | [], [], _, _, _, _, _, _, _ => rfl
 | [], w :: m, _, _, _, _, _, _, h => by
  have := congrArg List.length h
  have h2 : 0 < (encV w).length := List.length_pos_iff.2 (QjY w)
  simp [keyB] at this
  omega
 | v :: l, [], _, _, _, _, _, _, h => by
  have := congrArg List.length h
  have h2 : 0 < (encV v).length := List.length_pos_iff.2 (QjY v)
  simp [keyB] at this
  exact absurd this.1 (QjY v)
 | v :: l, w :: m, hB, hB2, hm, hm2, hz, hz2, h => by
  have e : ∀ (v : V) (l : List V), keyB (v :: l) = encV v ++ keyB l := fun v l => by simp [keyB]
  rw [e, e] at h
  unfold mayR at hm hm2
  rw [List.all_cons, Bool.and_eq_true] at hm hm2
  have z1 := hz v (List.mem_cons_self ..)
  have z2 := hz2 w (List.mem_cons_self ..)
  obtain ⟨e1, e2⟩ := Qk8 hB.1 hB2.1 (Qbr hm.1) (Qbr hm2.1) (by omega) (by omega) h
  rw [e1, QiN hB.2 hB2.2 hm.2 hm2.2 (fun x hx => hz x (List.mem_cons_of_mem _ hx)) (fun x hx => hz2 x (List.mem_cons_of_mem _ hx)) e2]
end
section
open Go Go.Proofs
def pick (row : List V) (p : Int) : Option V := if p < 0 then none else row[p.toNat]?
def picks (row : List V) : List Int → Option (List V)
 | [] => some []
 | p :: ps => match pick row p, picks row ps with
  | some v, some vs => some (v :: vs)
  | _, _ => none
theorem Qig {row : List V} {p : Int} : ∀ {ps : List Int}, picks row (ps ++ [p]) = (match picks row ps, pick row p with
 | some vs, some v => some (vs ++ [v])
 | _, _ => none)
 | [] => by simp only [List.nil_append, picks]; cases pick row p <;> rfl
 | q :: ps => by
  simp only [List.cons_append, picks, Qig (ps := ps)]
  cases pick row q <;> cases picks row ps <;> cases pick row p <;> rfl
theorem Qif {row : List V} {p : Int} : ∀ {ps : List Int}, p ∈ ps → pick row p = none → picks row ps = none
 | q :: ps, h, hn => by
  rcases List.mem_cons.1 h with rfl | h
  ·simp only [picks, hn]
  ·simp only [picks, Qif h hn]
   cases pick row q <;> rfl
theorem QfR {row : List V} : ∀ {ps : List Int} {vs : List V}, picks row ps = some vs → vs.length = ps.length ∧ ∀ v ∈ vs, v ∈ row
 | [], vs, h => by simp [picks] at h; subst h; exact ⟨rfl, fun v hv => by simp at hv⟩
 | p :: ps, vs, h => by
  simp only [picks] at h
  split at h
  ·rename_i w ws h1 h2
   injection h with h; subst h
   obtain ⟨q1, q2⟩ := QfR h2
   refine ⟨by simp [q1], fun v hv => ?_⟩
   rcases List.mem_cons.1 hv with rfl | hv
   ·unfold pick at h1
    split at h1
    ·cases h1
    ·exact List.mem_of_getElem? h1
   ·exact q2 v hv
  ·cases h
def cI (x : Int) : List Value := [.int .i64 x]
def IL (A : Heap) := SlIs (fun v x : Int => x = v) cI A
theorem Qip {A : Heap} {v : V} {y : TV} : ∀ {l : List V} {xs : List TV}, VsAre A l xs → VIs A v y → VsAre A (l ++ [v]) (xs ++ [y])
 | [], [], _, h => ⟨h, trivial⟩
 | a :: l, x :: xs, h1, h2 => ⟨h1.1, Qip h1.2 h2⟩
 | [], x :: xs, h1, _ => h1.elim
 | a :: l, [], h1, _ => h1.elim
theorem Ql3 {l q : List V} (h : fineV l) (hq : ∀ v ∈ q, v ∈ l) (hn : q.length ≤ 10000) : fineV q :=
 ⟨VBs.of fun v hv => h.1.mem (hq v hv), hn, fun v hv => h.2.2 v (hq v hv)⟩
/-- the key of some places, where all are there and may be -/
def keyAt (ps : List Int) (l : List V) : Option Str := match picks l ps with
 | some q => if mayR q then some (keyB q) else none
 | none => none
section
variable {C : Ctx} {H A : Heap}
theorem QnH {b : Nat × Nat} {t s : Sl} {ps : List Int} {l : List V} {K : Str → Bool → Heap → Prop} (hb : rd H (b.1, b.2 + 0) = some (slv t)) (hp : IL A t ps) (hv : VRow A s l) (hA : A.le H) (hf : fineV l) (hn : ps.length ≤ 10000)
 (k1 : ∀ key, keyAt ps l = some key → ∀ H2, H.le H2 → K key true H2) (k0 : keyAt ps l = none → ∀ H2, H.le H2 → K [] false H2) : Qbp C (some b) s K H := by
 apply QhN
 unfold QeT
 refine ⟨b, rfl, t, hb, ?_⟩
 have hl := hv.len
 have hln := hf.2.1
 refine ⟨fun y D => ∃ (i : Nat) (q : List V) (ys : List TV), y.2 = (i : Int) ∧ i ≤ ps.length ∧ picks l (ps.take i) = some q ∧ VsAre A q ys ∧ OwnF H D 4 y.1 (ys.flatMap Qa.c), fun y _ => ps.length - y.2.toNat, ⟨0, [], [], rfl, Nat.zero_le _, rfl, trivial, OwnF.nil H 4⟩, ?_⟩
 rintro ⟨r, _⟩ D ⟨i, q, ys, rfl, hi, hq, hys, ho⟩
 have hAD := hA.trans ho.le
 obtain ⟨hql, hqm⟩ := QfR hq
 rw [List.length_take, Nat.min_eq_left hi] at hql
 have hyl := hys.len
 have hf4 := flat4 ys
 have hrl : r.len = i := by have h1 : (ys.flatMap Qa.c).length = r.len * 4 := ho.own.1; omega
 rw [SlIs.len hp]
 refine ift.of (fun hc => ?_) (fun hc => ?_)
 ·have hlt : i < ps.length := by have := of_decide_eq_true hc; dsimp only at this; omega
  refine SlIs.fI hp hAD (z := 1) (fun _ => rfl) (by omega) rfl hlt (j := 0) (f := fun x => x) (fun _ => rfl) fun y hy => ?_
  rw [hy, hl]
  have hkn : pick l ps[i] = none → keyAt ps l = none := fun h => by unfold keyAt; rw [Qif (List.getElem_mem hlt) h]
  refine ift.of (fun h2 => ?_) (fun h2 => ?_)
  ·refine k0 (hkn ?_) D ho.le
   rw [Bool.or_eq_true] at h2
   unfold pick
   rcases h2 with h2 | h2
   ·rw [if_pos (of_decide_eq_true h2)]
   ·have := of_decide_eq_true h2
    rw [if_neg (by omega)]
    exact List.getElem?_eq_none (by omega)
  ·rw [Bool.or_eq_false_iff] at h2
   have h3 := of_decide_eq_false h2.1
   have h4 := of_decide_eq_false h2.2
   have hil : ps[i].toNat < l.length := by omega
   have hpk : pick l ps[i] = some l[ps[i].toNat] := by unfold pick; rw [if_neg h3, List.getElem?_eq_getElem hil]
   refine hv.ld hAD (i := ps[i].toNat) (by omega) hil fun z hz => ?_
   refine Qb4 (zc := Qa.c Qa.zero) ho rfl (by dsimp only; omega) (by dsimp only; omega) fun r2 D2 q1 q2 => ?_
   rw [Qm (by dsimp only; omega) (by dsimp only; omega)]
   refine ⟨⟨i + 1, q ++ [l[ps[i].toNat]], ys ++ [z], by dsimp only; omega, by omega, ?_, Qip hys hz, ?_⟩, by first | omega | (dsimp only; omega)⟩
   ·rw [List.take_add_one, List.getElem?_eq_getElem hlt, Option.toList_some, Qig, hq, hpk]
   ·rw [List.flatMap_append, List.flatMap_singleton]
    rw [List.append_nil] at q1
    exact q1
 ·have hie : i = ps.length := by have := of_decide_eq_false hc; dsimp only at this; omega
  subst hie
  rw [List.take_length] at hq
  have hr : VRow D r q := ⟨ys, ho.own.rdsl, by omega, hys.le hAD⟩
  refine Qjs hr (Heap.le.refl _) (Ql3 hf hqm (by omega)) (fun hm H2 h2 => k1 _ ?_ H2 (ho.le.trans h2)) fun hm H2 h2 => k0 ?_ H2 (ho.le.trans h2)
  ·unfold keyAt; rw [hq]; simp [hm]
  ·unfold keyAt; rw [hq]; simp [hm]
end
end
section
open Go Go.Proofs
/-- whose a map's block is -/
inductive Wh where
 | rows : Wh
 | bys : Wh
 | inn : Str → Wh
 | leaf : Str → Str → Wh
def Wh.of : Wh → Option Str
 | .rows => none
 | .bys => none
 | .inn s => some s
 | .leaf s _ => some s
abbrev Own_ := Nat → Option Wh
theorem QjZ {α : Type} {l : List (Str × α)} (h : l.Pairwise fun p q => p.1 ≠ q.1) {p : Str × α} : p ∈ l ↔ lkL p.1 l = some p.2 :=
 ⟨fun hp => Qbz h hp, fun hp => Qbb hp⟩
/-- a map of rows by their keys -/
def RM (A H : Heap) (m : Nat) (R : List (List V)) : Prop := ∃ l : List (Str × Sl), MapS slv H m l ∧ (∀ p ∈ l, ∃ r ∈ R, p.1 = keyB r ∧ VRow A p.2 r) ∧ ∀ r ∈ R, ∃ s, (keyB r, s) ∈ l
section
variable {A B H H2 : Heap} {m : Nat} {R R2 : List (List V)}
theorem RM.same (h : RM A H m R) (hb : H2 m = H m) : RM A H2 m R := by
 obtain ⟨l, h1, h2, h3⟩ := h
 exact ⟨l, h1.same hb, h2, h3⟩
theorem RM.up (h : RM A H m R) (hle : A.le B) : RM B H m R := by
 obtain ⟨l, h1, h2, h3⟩ := h
 exact ⟨l, h1, fun p hp => (h2 p hp).imp fun r ⟨q1, q2, q3⟩ => ⟨q1, q2, q3.le hle⟩, h3⟩
theorem RM.congr (h : RM A H m R) (he : ∀ r, r ∈ R ↔ r ∈ R2) : RM A H m R2 := by
 obtain ⟨l, h1, h2, h3⟩ := h
 exact ⟨l, h1, fun p hp => (h2 p hp).imp fun r ⟨q1, q2⟩ => ⟨(he r).1 q1, q2⟩, fun r hr => h3 r ((he r).2 hr)⟩
theorem RM.isS (h : RM A H m R) : ∃ g, H m = some (true, g) := by
 obtain ⟨l, ⟨es, ck, h1⟩, _⟩ := h
 exact ⟨_, h1.at_⟩
theorem RM.new {b : Nat} : RM A (H.put b (.obj (.map #[] 0))) b [] := ⟨[], MapS.new, (fun p hp => by cases hp), fun r hr => by cases hr⟩
theorem RM.put {r : List V} {s : Sl} {K : Heap → Prop} (h : RM A H m R) (hs : VRow A s r) (k : ∀ g, RM A (H.put m g) m (R ++ [r]) → K (H.put m g)) : upS slv (some m) (keyB r) s K H := by
 obtain ⟨l, h1, h2, h3⟩ := h
 refine ⟨m, l, rfl, h1, fun g l2 q1 q2 _ => k g ⟨l2, q1, fun p hp => ?_, fun r' hr' => ?_⟩⟩
 ·have hl := (QjZ q1.is.nd).1 hp
  rw [q2] at hl
  split at hl
  ·rename_i he
   injection hl with hl
   exact ⟨r, by simp, he, hl ▸ hs⟩
  ·obtain ⟨r', a, b⟩ := h2 p (Qbb hl)
   exact ⟨r', List.mem_append_left _ a, b⟩
 ·by_cases he : keyB r' = keyB r
  ·exact ⟨s, Qbb (by rw [q2, if_pos he])⟩
  ·have hr : r' ∈ R := by
    rcases List.mem_append.1 hr' with hr | hr
    ·exact hr
    ·rw [List.mem_singleton] at hr; exact absurd (by rw [hr]) he
   obtain ⟨s', hs'⟩ := h3 r' hr
   exact ⟨s', Qbb (by rw [q2, if_neg he]; exact Qbz h1.is.nd hs')⟩
theorem RM.del {r : List V} {K : Heap → Prop} (h : RM A H m R) (k : ∀ g, RM A (H.put m g) m (R.filter fun r' => decide (keyB r' ≠ keyB r)) → K (H.put m g)) : delS slv (some m) (keyB r) K H := by
 obtain ⟨l, h1, h2, h3⟩ := h
 refine .inr ⟨m, l, rfl, h1, fun g l2 q1 q2 => k g ⟨l2, q1, fun p hp => ?_, fun r' hr' => ?_⟩⟩
 ·obtain ⟨a, b⟩ := (q2 p).1 hp
  obtain ⟨r', c, d, e⟩ := h2 p a
  exact ⟨r', List.mem_filter.2 ⟨c, by rw [← d]; simpa using b⟩, d, e⟩
 ·obtain ⟨a, b⟩ := List.mem_filter.1 hr'
  obtain ⟨s, hs⟩ := h3 r' a
  exact ⟨s, (q2 _).2 ⟨hs, by simpa using b⟩⟩
/-- rows whose keys are one to one -/
def Fine (R : List (List V)) : Prop := ∀ r ∈ R, fineV r ∧ mayR r = true
theorem Fine.inj (h : Fine R) {r r' : List V} (hr : r ∈ R) (hf : fineV r') (hm : mayR r' = true) (e : keyB r = keyB r') : r = r' :=
 QiN (h r hr).1.1 hf.1 (h r hr).2 hm (h r hr).1.2.2 hf.2.2 e
theorem RM.look {r : List V} {K : Sl → Bool → Prop} (h : RM A H m R) (hF : Fine R) (hf : fineV r) (hm : mayR r = true) (k1 : r ∈ R → ∀ s, VRow A s r → K s true) (k0 : r ∉ R → K Sl.nil false) : lkM slv Sl.nil (some m) (keyB r) K H := by
 obtain ⟨l, h1, h2, h3⟩ := h
 refine h1.is.lk (fun x hx => ?_) (fun hx => k0 fun hr => ?_)
 ·obtain ⟨r', a, b, c⟩ := h2 _ (Qbb hx)
  have := hF.inj a hf hm b.symm
  subst this
  exact k1 a x c
 ·obtain ⟨s, hs⟩ := h3 r hr
  rw [Qbz h1.is.nd hs] at hx; cases hx
theorem RM.perm (h : RM A H m R) (hn : R.Nodup) (hF : Fine R) {l : List (Str × Sl)} (h1 : MapS slv H m l) (h2 : ∀ p ∈ l, ∃ r ∈ R, p.1 = keyB r ∧ VRow A p.2 r) (h3 : ∀ r ∈ R, ∃ s, (keyB r, s) ∈ l) : (l.map fun p => p.1).Perm (R.map keyB) := by
 refine (List.perm_ext_iff_of_nodup ?_ ?_).2 fun k => ⟨fun hk => ?_, fun hk => ?_⟩
 ·have := h1.is.nd
  rw [List.Nodup, List.pairwise_map]; exact this
 ·rw [List.Nodup, List.pairwise_map]
  refine List.Pairwise.imp_of_mem (fun {a b} ha hb hab e => hab (hF.inj ha (hF b hb).1 (hF b hb).2 e)) hn
 ·obtain ⟨p, hp, rfl⟩ := List.mem_map.1 hk
  obtain ⟨r, hr, e, _⟩ := h2 p hp
  exact List.mem_map.2 ⟨r, hr, e.symm⟩
 ·obtain ⟨r, hr, rfl⟩ := List.mem_map.1 hk
  obtain ⟨s, hs⟩ := h3 r hr
  exact List.mem_map.2 ⟨_, hs, rfl⟩
theorem RM.ln {K : Nat → Prop} (h : RM A H m R) (hn : R.Nodup) (hF : Fine R) (k : K R.length) : lnM (some m) K H := by
 obtain ⟨l, h1, h2, h3⟩ := h
 have := (RM.perm ⟨l, h1, h2, h3⟩ hn hF h1 h2 h3).length_eq
 rw [List.length_map, List.length_map] at this
 exact h1.is.ln (by rw [this]; exact k)
end
/-- what has changed: blocks of some owners, and new ones -/
structure Chg (P : Wh → Prop) (o : Own_) (H : Heap) (o2 : Own_) (H2 : Heap) : Prop where
 kp : ∀ c e, H c = some e → (∀ w, o c = some w → ¬ P w) → H2 c = some e
 up : ∀ c w, o c = some w → o2 c = some w
 dn : ∀ c w, o2 c = some w → o c = some w ∨ (H c = none ∧ P w ∧ H2 c ≠ none)
 li : ∀ c, H c ≠ none → H2 c ≠ none
section
variable {P : Wh → Prop} {o o2 o3 : Own_} {A H H2 H3 : Heap}
theorem Chg.of_le (h : H.le H2) : Chg P o H o H2 := ⟨fun c e hc _ => h c e hc, fun _ _ h => h, fun _ _ h => .inl h, fun c hc => by
 cases he : H c with
 | none => exact absurd he hc
 | some e => rw [h c e he]; simp⟩
theorem Chg.trans (h : Chg P o H o2 H2) (h' : Chg P o2 H2 o3 H3) : Chg P o H o3 H3 := by
 refine ⟨fun c e hc hn => h'.kp c e (h.kp c e hc hn) fun w hw => ?_, fun c w hw => h'.up c w (h.up c w hw), fun c w hw => ?_, fun c hc => h'.li c (h.li c hc)⟩
 ·rcases h.dn c w hw with h1 | ⟨h1, h2⟩
  ·exact hn w h1
  ·rw [h1] at hc; cases hc
 ·rcases h'.dn c w hw with h1 | ⟨h1, h2⟩
  ·exact (h.dn c w h1).imp id fun ⟨a, b, d⟩ => ⟨a, b, h'.li c d⟩
  ·refine .inr ⟨?_, h2⟩
   cases he : H c with
   | none => rfl
   | some e => exact absurd h1 (h.li c (by rw [he]; simp))
theorem Chg.imp {Q : Wh → Prop} (h : Chg P o H o2 H2) (hi : ∀ w, P w → Q w) : Chg Q o H o2 H2 :=
 ⟨fun c e hc hn => h.kp c e hc fun w hw hp => hn w hw (hi w hp), h.up, fun c w hw => (h.dn c w hw).imp id fun ⟨a, b, d⟩ => ⟨a, hi w b, d⟩, h.li⟩
/-- a block of an owner written -/
theorem Chg.put {c : Nat} {w : Wh} {g : GO} (ho : o c = some w) (hP : P w) : Chg P o H o (H.put c g) := by
 refine ⟨fun x e hx hn => ?_, fun _ _ h => h, fun _ _ h => .inl h, fun x hx => ?_⟩
 ·have : x ≠ c := fun e' => by subst e'; exact hn w ho hP
  rw [Heap.put_ne _ _ _ this]; exact hx
 ·by_cases hxc : x = c
  ·subst hxc; rw [Heap.put_same]; simp
  ·rw [Heap.put_ne _ _ _ hxc]; exact hx
def Own_.set (o : Own_) (b : Nat) (w : Wh) : Own_ := fun c => if c = b then some w else o c
theorem Own_.set_same {b : Nat} {w : Wh} : o.set b w b = some w := by simp [Own_.set]
theorem Own_.set_ne {b c : Nat} {w : Wh} (h : c ≠ b) : o.set b w c = o c := by simp [Own_.set, h]
/-- a new block of an owner -/
theorem Chg.new {b : Nat} {w : Wh} {g : GO} {m : Bool} (hb : H b = none) (ho : ∀ w, o b = some w → False) (hP : P w) : Chg P o H (o.set b w) (H.put b g m) := by
 refine ⟨fun x e hx hn => Heap.le_put hb x e hx, fun c w' hc => ?_, fun c w' hc => ?_, fun x hx => ?_⟩
 ·have : c ≠ b := fun e => by subst e; exact ho w' hc
  rw [Own_.set_ne this]; exact hc
 ·by_cases hcb : c = b
  ·subst hcb; rw [Own_.set_same] at hc; injection hc with hc; subst hc
   exact .inr ⟨hb, hP, by rw [Heap.put_same]; simp⟩
  ·rw [Own_.set_ne hcb] at hc; exact .inl hc
 ·have : x ≠ b := fun e => by subst e; exact hx hb
  rw [Heap.put_ne _ _ _ this]; exact hx
/-- owners and rows' memory -/
structure OH (o : Own_) (A H : Heap) : Prop where
 le : A.le H
 ap : ∀ c w, o c = some w → A c = none
 oh : ∀ c w, o c = some w → H c ≠ none
theorem OH.no (h : OH o A H) {b : Nat} (hb : H b = none) : ∀ w, o b = some w → False := fun w hw => h.oh b w hw hb
theorem OH.chg (h : OH o A H) (hc : Chg P o H o2 H2) : OH o2 A H2 := by
 refine ⟨fun c e hc2 => hc.kp c e (h.le c e hc2) (fun w hw _ => by rw [h.ap c w hw] at hc2; cases hc2), fun c w hw => ?_, fun c w hw => ?_⟩
 ·rcases hc.dn c w hw with h1 | ⟨h1, _⟩
  ·exact h.ap c w h1
  ·exact h.le.none h1
 ·rcases hc.dn c w hw with h1 | ⟨_, _, h1⟩
  ·exact hc.li c (h.oh c w h1)
  ·exact h1
end
/-- the maps of some places' rows -/
def BM (o : Own_) (A H : Heap) (n : Str) (ps : List Int) (q : Nat) (R : List (List V)) (L : List (Str × Option Nat)) : Prop :=
 o q = some (.inn n) ∧ MapS mv H q L ∧ (∀ p ∈ L, ∃ e, p.2 = some e ∧ o e = some (.leaf n p.1) ∧ RM A H e (R.filter fun r => decide (keyAt ps r = some p.1))) ∧ ∀ r ∈ R, ∀ k, keyAt ps r = some k → ∃ e, (k, e) ∈ L
/-- rows by some places -/
def By (o : Own_) (A H : Heap) (n : Str) (ps : List Int) (b : Nat) (R : List (List V)) : Prop :=
 ∃ (mu : Bool) (t : Sl) (q : Nat) (L : List (Str × Option Nat)), A b = some (mu, .row [slv t, mv (some q)]) ∧ IL A t ps ∧ BM o A H n ps q R L
section
variable {o o2 : Own_} {A B H H2 : Heap} {n : Str} {ps : List Int} {q b : Nat} {R R2 : List (List V)} {L : List (Str × Option Nat)}
theorem BM.keep (h : BM o A H n ps q R L) (hk : ∀ c w, o c = some w → w.of = some n → o2 c = some w ∧ H2 c = H c) : BM o2 A H2 n ps q R L := by
 obtain ⟨h1, h2, h3, h4⟩ := h
 obtain ⟨k1, k2⟩ := hk q _ h1 rfl
 refine ⟨k1, h2.same k2, fun p hp => ?_, h4⟩
 obtain ⟨e, q1, q2, q3⟩ := h3 p hp
 obtain ⟨k1, k2⟩ := hk e _ q2 rfl
 exact ⟨e, q1, k1, q3.same k2⟩
theorem BM.blk (h : BM o A H n ps q R L) : (∃ g, H q = some (true, g)) ∧ ∀ p ∈ L, ∃ e g, p.2 = some e ∧ H e = some (true, g) := by
 obtain ⟨h1, ⟨es, ck, h2⟩, h3, h4⟩ := h
 refine ⟨⟨_, h2.at_⟩, fun p hp => ?_⟩
 obtain ⟨e, q1, q2, q3⟩ := h3 p hp
 obtain ⟨g, hg⟩ := q3.isS
 exact ⟨e, g, q1, hg⟩
theorem QgN {f : List V → Bool} (he : ∀ r, r ∈ R ↔ r ∈ R2) (r : List V) : r ∈ R.filter f ↔ r ∈ R2.filter f := by rw [List.mem_filter, List.mem_filter, he]
theorem BM.congr (h : BM o A H n ps q R L) (he : ∀ r, r ∈ R ↔ r ∈ R2) : BM o A H n ps q R2 L := by
 obtain ⟨h1, h2, h3, h4⟩ := h
 refine ⟨h1, h2, fun p hp => ?_, fun r hr => h4 r ((he r).2 hr)⟩
 obtain ⟨e, q1, q2, q3⟩ := h3 p hp
 exact ⟨e, q1, q2, q3.congr (QgN he)⟩
theorem BM.up (h : BM o A H n ps q R L) (hle : A.le B) : BM o B H n ps q R L := by
 obtain ⟨h1, h2, h3, h4⟩ := h
 refine ⟨h1, h2, fun p hp => ?_, h4⟩
 obtain ⟨e, q1, q2, q3⟩ := h3 p hp
 exact ⟨e, q1, q2, q3.up hle⟩
theorem By.keep (h : By o A H n ps b R) (hk : ∀ c w, o c = some w → w.of = some n → o2 c = some w ∧ H2 c = H c) : By o2 A H2 n ps b R := by
 obtain ⟨mu, t, q, L, h1, h2, h3⟩ := h
 exact ⟨mu, t, q, L, h1, h2, h3.keep hk⟩
theorem By.up (h : By o A H n ps b R) (hle : A.le B) : By o B H n ps b R := by
 obtain ⟨mu, t, q, L, h1, h2, h3⟩ := h
 exact ⟨mu, t, q, L, hle _ _ h1, SlIs.le hle h2 fun _ _ _ h => h, h3.up hle⟩
theorem By.congr (h : By o A H n ps b R) (he : ∀ r, r ∈ R ↔ r ∈ R2) : By o A H n ps b R2 := by
 obtain ⟨mu, t, q, L, h1, h2, h3⟩ := h
 exact ⟨mu, t, q, L, h1, h2, h3.congr he⟩
/-- another's change -/
theorem Chg.by_ {P : Wh → Prop} (h : Chg P o H o2 H2) (hB : By o A H n ps b R) (hP : ∀ w, P w → w.of ≠ some n) : By o2 A H2 n ps b R := by
 obtain ⟨mu, t, q, L, h1, h2, h3⟩ := hB
 obtain ⟨⟨g, hq⟩, hl⟩ := h3.blk
 obtain ⟨p1, p2, p3, p4⟩ := h3
 refine ⟨mu, t, q, L, h1, h2, h.up _ _ p1, p2.same ?_, fun p hp => ?_, p4⟩
 ·rw [hq]; exact h.kp _ _ hq fun w hw hPw => by rw [p1] at hw; injection hw with hw; subst hw; exact hP _ hPw rfl
 ·obtain ⟨e, q1, q2, q3⟩ := p3 p hp
  obtain ⟨e', g', r1, r2⟩ := hl p hp
  rw [q1] at r1; injection r1 with r1; subst r1
  refine ⟨e, q1, h.up _ _ q2, q3.same ?_⟩
  rw [r2]; exact h.kp _ _ r2 fun w hw hPw => by rw [q2] at hw; injection hw with hw; subst hw; exact hP _ hPw rfl
end
end
section
open Go Go.Proofs
section
variable {C : Ctx} {o o2 : Own_} {A H H2 : Heap} {n : Str} {ps : List Int} {q b : Nat} {R : List (List V)} {L : List (Str × Option Nat)}
theorem Qkj {f : List V → Bool} {r : List V} : (R ++ [r]).filter f = if f r then R.filter f ++ [r] else R.filter f := by
 rw [List.filter_append]
 cases h : f r <;> simp [h]
theorem BM.ne (h : BM o A H n ps q R L) {p : Str × Option Nat} {e : Nat} (hp : p ∈ L) (he : p.2 = some e) : e ≠ q ∧ (∃ g, H e = some (true, g)) ∧ o e = some (.leaf n p.1) := by
 obtain ⟨h1, h2, h3, h4⟩ := h
 obtain ⟨e', q1, q2, q3⟩ := h3 p hp
 rw [he] at q1; injection q1 with q1; subst q1
 exact ⟨(fun e' => by subst e'; rw [h1] at q2; cases q2), q3.isS, q2⟩
/-- a new map for a key -/
theorem BM.key {k : Str} {K : Heap → Prop} (h : BM o A H n ps q R L) (hO : OH o A H) (hl : lkL k L = none)
 (kk : ∀ b2 o2 H2 L2, Chg (fun w => w.of = some n) o H o2 H2 → BM o2 A H2 n ps q R L2 → (k, some b2) ∈ L2 → K H2) : mkM (fun b2 H3 => upS mv (some q) k (some b2) K H3) H := by
 intro b2 n2
 obtain ⟨⟨gq, hq⟩, hbl⟩ := h.blk
 have hne := fun p e => h.ne (p := p) (e := e)
 obtain ⟨h1, h2, h3, h4⟩ := h
 have hle := Heap.le_put n2 (g := .obj (.map #[] 0)) (m := true)
 have hqb : q ≠ b2 := fun e => by subst e; rw [n2] at hq; cases hq
 refine ⟨q, L, rfl, h2.le hle, fun g l2 q1 q2 _ => kk b2 (o.set b2 (.leaf n k)) _ l2 ((Chg.new (P := fun w => w.of = some n) (w := .leaf n k) n2 (hO.no n2) rfl).trans (Chg.put (P := fun w => w.of = some n) (w := .inn n) (by rw [Own_.set_ne hqb]; exact h1) rfl)) ⟨by rw [Own_.set_ne hqb]; exact h1, q1, fun p hp => ?_, fun r hr k2 hk2 => ?_⟩ (Qbb (by rw [q2, if_pos rfl]))⟩
 ·have hl2 := (QjZ q1.is.nd).1 hp
  rw [q2] at hl2
  split at hl2
  ·rename_i he
   injection hl2 with hl2
   refine ⟨b2, hl2.symm, by rw [Own_.set_same, he], ?_⟩
   have hf : (R.filter fun r => decide (keyAt ps r = some p.1)) = [] := by
    rw [List.filter_eq_nil_iff]
    intro r hr hk
    obtain ⟨e, hm⟩ := h4 r hr p.1 (of_decide_eq_true hk)
    rw [he] at hm
    rw [Qbz h2.is.nd hm] at hl; cases hl
   rw [hf]
   exact (RM.new (A := A) (H := H) (b := b2)).same (by rw [Heap.put_ne _ _ _ hqb.symm])
  ·have hpL := Qbb hl2
   obtain ⟨e, r1, r2, r3⟩ := h3 _ hpL
   obtain ⟨s1, ⟨g', s2⟩, s3⟩ := hne _ e hpL r1
   have hb2 : e ≠ b2 := fun e' => by subst e'; rw [n2] at s2; cases s2
   exact ⟨e, r1, by rw [Own_.set_ne hb2]; exact r2, r3.same (by rw [Heap.put_ne _ _ _ s1, Heap.put_ne _ _ _ hb2])⟩
 ·obtain ⟨e, he⟩ := h4 r hr k2 hk2
  by_cases hk : k2 = k
  ·exact ⟨some b2, Qbb (by rw [q2, if_pos hk])⟩
  ·exact ⟨e, Qbb (by rw [q2, if_neg hk]; exact Qbz h2.is.nd he)⟩
/-- a row put to a key's map -/
theorem BM.put {k : Str} {e : Nat} {r : List V} {s : Sl} {K : Heap → Prop} (h : BM o A H n ps q R L) (hm : (k, some e) ∈ L) (hk : keyAt ps r = some k) (hs : VRow A s r)
 (kk : ∀ g, Chg (fun w => w.of = some n) o H o (H.put e g) → BM o A (H.put e g) n ps q (R ++ [r]) L → K (H.put e g)) : upS slv (some e) (keyB r) s K H := by
 have hne := fun p e => h.ne (p := p) (e := e)
 obtain ⟨⟨gq, hq⟩, hbl⟩ := h.blk
 obtain ⟨h1, h2, h3, h4⟩ := h
 obtain ⟨e', r1, r2, r3⟩ := h3 _ hm
 injection r1 with r1; subst r1
 obtain ⟨s1, _, _⟩ := hne _ e hm rfl
 refine r3.put hs fun g hR => kk g (Chg.put r2 rfl) ⟨h1, h2.same (by rw [Heap.put_ne _ _ _ s1.symm]), fun p hp => ?_, fun r' hr' k' hk' => ?_⟩
 ·obtain ⟨e', t1, t2, t3⟩ := h3 p hp
  refine ⟨e', t1, t2, ?_⟩
  rw [Qkj]
  by_cases hpk : p.1 = k
  ·rw [if_pos (by rw [hk, hpk]; simp)]
   rw [hpk] at t2 t3 ⊢
   have : p = (k, some e') := by rw [← hpk, ← t1]
   rw [this] at hp
   have h5 := Qbz h2.is.nd hp
   rw [Qbz h2.is.nd hm] at h5
   injection h5 with h5; injection h5 with h5; subst h5
   exact hR
  ·rw [if_neg (by rw [hk]; simpa using fun e => hpk e.symm)]
   refine t3.same (Heap.put_ne _ _ _ fun e2 => ?_)
   subst e2
   rw [r2] at t2; injection t2 with t2; injection t2 with _ t2
   exact hpk t2.symm
 ·rcases List.mem_append.1 hr' with hr' | hr'
  ·exact h4 r' hr' k' hk'
  ·rw [List.mem_singleton] at hr'; subst hr'
   rw [hk] at hk'; injection hk' with hk'; subst hk'
   exact ⟨_, hm⟩
theorem Qjm {r : List V} {s : Sl} {K : Heap → Prop} (h : By o A H n ps b R) (hO : OH o A H) (hs : VRow A s r) (hf : fineV r) (hps : ps.length ≤ 10000)
 (k : ∀ o2 H2, Chg (fun w => w.of = some n) o H o2 H2 → By o2 A H2 n ps b (R ++ [r]) → K H2) : Qab C (some (b, 0)) (keyB r) s K H := by
 obtain ⟨mu, t, q, L, hb, hp, hB⟩ := h
 have hbH := hO.le _ _ hb
 apply Qg3
 unfold Qeo
 refine QnH (b := (b, 0)) (t := t) (ps := ps) (A := A) (by rw [Q7 hbH]; rfl) hp hs hO.le hf hps (fun key hkey H3 h3 => ?_) fun hkey H3 h3 => ?_
 ·refine Qd rfl ?_
  have hB3 : BM o A H3 n ps q R L := hB.keep fun c w hc _ => ⟨hc, by
   cases he : H c with
   | none => exact absurd he (hO.oh c w hc)
   | some e => exact h3 c e he⟩
  have c3 : Chg (fun w => w.of = some n) o H o H3 := Chg.of_le h3
  have hO3 := hO.chg c3
  have hb3 := hO3.le _ _ hb
  refine ⟨fun _ D => ∃ o2 L2 e, Chg (fun w => w.of = some n) o H o2 D ∧ BM o2 A D n ps q R L2 ∧ (key, some e) ∈ L2, ?_, ?_⟩
  ·refine ⟨_, rfl, some q, by rw [Q7 hb3]; rfl, ?_⟩
   refine hB3.2.1.is.lk (fun x hx => ?_) fun hx => ?_
   ·have hm := Qbb hx
    obtain ⟨e, q1, q2, q3⟩ := hB3.2.2.1 _ hm
    dsimp only at q1; subst q1
    exact Qd rfl ⟨o, L, e, c3, hB3, hm⟩
   ·refine QE rfl ⟨_, rfl, some q, by rw [Q7 hb3]; rfl, ?_⟩
    exact hB3.key hO3 hx fun b2 o2 H4 L2 q1 q2 q3 => ⟨o2, L2, b2, c3.trans q1, q2, q3⟩
  ·rintro _ D ⟨o2, L2, e, c4, hB4, hm⟩
   have hO4 := hO.chg c4
   have hb4 := hO4.le _ _ hb
   refine ⟨_, rfl, some q, by rw [Q7 hb4]; rfl, ?_⟩
   refine hB4.2.1.is.lk (fun x hx => ?_) fun hx => ?_
   ·rw [Qbz hB4.2.1.is.nd hm] at hx
    injection hx with hx; subst hx
    exact hB4.put hm hkey hs fun g q1 q2 => k o2 _ (c4.trans q1) ⟨mu, t, q, L2, hb, hp, q2⟩
   ·rw [Qbz hB4.2.1.is.nd hm] at hx; cases hx
 ·refine QE rfl (k o H3 (Chg.of_le h3) ⟨mu, t, q, L, hb, hp, ?_⟩)
  have hB3 : BM o A H3 n ps q R L := hB.keep fun c w hc _ => ⟨hc, by
   cases he : H c with
   | none => exact absurd he (hO.oh c w hc)
   | some e => exact h3 c e he⟩
  obtain ⟨q1, q2, q3, q4⟩ := hB3
  refine ⟨q1, q2, fun p hp => ?_, fun r' hr' k' hk' => ?_⟩
  ·obtain ⟨e, r1, r2, r3⟩ := q3 p hp
   refine ⟨e, r1, r2, ?_⟩
   rw [Qkj, if_neg (by rw [hkey]; simp)]
   exact r3
  ·rcases List.mem_append.1 hr' with hr' | hr'
   ·exact q4 r' hr' k' hk'
   ·rw [List.mem_singleton] at hr'; subst hr'
    rw [hkey] at hk'; cases hk'
end
end
section
open Go Go.Proofs
/-- the name of places -/
def nmOf : List Int → Str
 | [] => []
 | p :: ps => Lib.itoa p ++ ps.flatMap fun q => 32 :: Lib.itoa q
def PsOk (ps : List Int) : Prop := ps.length ≤ 10000 ∧ ∀ p ∈ ps, -9223372036854775808 ≤ p ∧ p ≤ 9223372036854775807
/-- an index: its object, its maps -/
structure IxP (o : Own_) (A H : Heap) (x m g : Nat) (L : List (Str × Option (Nat × Nat))) (R : List (List V)) (Rb : Str → List (List V)) : Prop where
 oh : OH o A H
 hx : ∃ mu, A x = some (mu, .row [mv (some m), mv (some g)])
 om : o m = some .rows
 og : o g = some .bys
 rm : RM A H m R
 mg : MapS pv H g L
 bs : ∀ p ∈ L, ∃ b ps, p.2 = some (b, 0) ∧ p.1 = nmOf ps ∧ PsOk ps ∧ By o A H p.1 ps b (Rb p.1)
def Heap.or (A N : Heap) : Heap := fun c => match A c with | some e => some e | none => N c
section
variable {A N H : Heap}
theorem Heap.le_or : A.le (A.or N) := fun c e h => by unfold Heap.or; rw [h]
theorem Heap.or_le (h1 : A.le H) (h2 : N.le H) : (A.or N).le H := fun c e h => by
 unfold Heap.or at h
 cases ha : A c with
 | some e' => rw [ha] at h; injection h with h; subst h; exact h1 c _ ha
 | none => rw [ha] at h; exact h2 c e h
theorem Heap.or_some {c : Nat} (h : A.or N c ≠ none) : A c ≠ none ∨ N c ≠ none := by
 unfold Heap.or at h
 cases ha : A c with
 | some e' => exact .inl (by simp)
 | none => rw [ha] at h; exact .inr h
theorem Heap.or_none {c : Nat} (h1 : A c = none) (h2 : N c = none) : A.or N c = none := by unfold Heap.or; rw [h1]; exact h2
theorem Heap.le_or3 (h1 : A.le H) (h2 : N.le H) : N.le (A.or N) := fun c e hc => by
 unfold Heap.or
 cases ha : A c with
 | none => exact hc
 | some e' => have := h1 c _ ha; rw [h2 c _ hc] at this; exact this.symm
theorem Heap.le_or2 (h : ∀ c e, N c = some e → A c = none) : N.le (A.or N) := fun c e hc => by unfold Heap.or; rw [h c e hc]; exact hc
end
section
variable {C : Ctx} {o o2 : Own_} {A B H H2 : Heap} {x m g : Nat} {L : List (Str × Option (Nat × Nat))} {R R2 : List (List V)} {Rb Rb2 : Str → List (List V)}
theorem OH.up (h : OH o A H) (hle : H.le H2) : OH o A H2 := ⟨h.le.trans hle, h.ap, fun c w hw => by
 have := h.oh c w hw
 cases he : H c with
 | none => exact absurd he this
 | some e => rw [hle c e he]; simp⟩
theorem OH.eq (h : OH o A H) {P : Wh → Prop} (hle : H.le H2) {c : Nat} {w : Wh} (hw : o c = some w) : H2 c = H c := by
 cases he : H c with
 | none => exact absurd he (h.oh c w hw)
 | some e => exact hle c e he
theorem IxP.keep (h : IxP o A H x m g L R Rb) (hA : A.le H2) (hk : ∀ c w, o c = some w → H2 c = H c) : IxP o A H2 x m g L R Rb := by
 refine ⟨⟨hA, h.oh.ap, fun c w hw => by rw [hk c w hw]; exact h.oh.oh c w hw⟩, h.hx, h.om, h.og, h.rm.same (hk _ _ h.om), h.mg.same (hk _ _ h.og), fun p hp => ?_⟩
 obtain ⟨b, ps, q1, q2, q3, q4⟩ := h.bs p hp
 exact ⟨b, ps, q1, q2, q3, q4.keep fun c w hc _ => ⟨hc, hk c w hc⟩⟩
theorem IxP.up (h : IxP o A H x m g L R Rb) (hle : H.le H2) : IxP o A H2 x m g L R Rb :=
 h.keep (h.oh.le.trans hle) fun c w hw => by
  cases he : H c with
  | none => exact absurd he (h.oh.oh c w hw)
  | some e => exact hle c e he
theorem IxP.ld0 (h : IxP o A H x m g L R Rb) {K : Option Nat → Prop} (k : K (some m)) : ldM H ((x, 0).1, (x, 0).2 + 0) K := by
 obtain ⟨mu, hx⟩ := h.hx
 exact ⟨some m, by rw [Q7 (h.oh.le _ _ hx)]; rfl, k⟩
theorem IxP.ld1 (h : IxP o A H x m g L R Rb) {K : Option Nat → Prop} (k : K (some g)) : ldM H ((x, 0).1, (x, 0).2 + 1) K := by
 obtain ⟨mu, hx⟩ := h.hx
 exact ⟨some g, by rw [Q7 (h.oh.le _ _ hx)]; rfl, k⟩
theorem It.same {α : Type} {enc : α → Value} {it m : Nat} {l vs : List (Str × α)} (h : It enc H it m l vs) (h1 : H2 it = H it) (h2 : H2 m = H m) : It enc H2 it m l vs := by
 obtain ⟨⟨es, ck, seen, q1, q2, q3⟩, h4, h5⟩ := h
 exact ⟨⟨es, ck, seen, ⟨by rw [h2]; exact q1.at_, q1.ents, q1.st⟩, by rw [h1]; exact q2, q3⟩, h4, h5⟩
theorem It.at_ {α : Type} {enc : α → Value} {it m : Nat} {l vs : List (Str × α)} (h : It enc H it m l vs) : (∃ ob, H it = some (true, .obj ob)) ∧ ∃ ob, H m = some (true, .obj ob) := by
 obtain ⟨⟨es, ck, seen, q1, q2, q3⟩, h4, h5⟩ := h
 exact ⟨⟨_, q2⟩, _, q1.at_⟩
theorem QnO {α : Type} {L vs : List (Str × α)} (hnd : L.Pairwise fun p q => p.1 ≠ q.1) (hs : ∀ p ∈ vs, p ∈ L) {p : Str × α} (hp : p ∈ L) (hn : p ∉ vs) : p.1 ∉ vs.map fun q => q.1 := fun h => by
 obtain ⟨q, hq, e⟩ := List.mem_map.1 h
 have := Qlj hnd (hs q hq) hp e
 rw [this] at hq; exact hn hq
theorem Chg.tmp {P : Wh → Prop} {D : Heap} {it : Nat} {g : GO} {m : Bool} (h : Chg P o H o2 D) (hn : H it = none) (ho : ∀ w, o2 it = some w → False) : Chg P o H o2 (D.put it g m) := by
 refine ⟨fun c e hc hw => ?_, h.up, fun c w hw => ?_, fun c hc => ?_⟩
 ·have : c ≠ it := fun e' => by rw [e', hn] at hc; cases hc
  rw [Heap.put_ne _ _ _ this]; exact h.kp c e hc hw
 ·have : c ≠ it := fun e' => ho w (by rw [← e']; exact hw)
  rw [Heap.put_ne _ _ _ this]; exact h.dn c w hw
 ·have : c ≠ it := fun e' => hc (by rw [e']; exact hn)
  rw [Heap.put_ne _ _ _ this]; exact h.li c hc
/-- what is done to each list of rows by places: a range over them -/
theorem QmI {K : Heap → Prop} {f : Option (Nat × Nat) → (Heap → Prop) → Heap → Prop} (h : IxP o A H x m g L R Rb)
 (step : ∀ o' D n b ps (J : Heap → Prop), Chg (fun _ => True) o H o' D → OH o' A D → PsOk ps → By o' A D n ps b (Rb n) → (∀ o2 D2, Chg (fun w => w.of = some n) o' D o2 D2 → By o2 A D2 n ps b (Rb2 n) → J D2) → f (some (b, 0)) J D)
 (k : ∀ o2 D, Chg (fun _ => True) o H o2 D → IxP o2 A D x m g L R Rb2 → K D) :
 rgM pv (some g) (fun b25 H26 => lp (α := Unit) () H26 fun x27 J28 H29 => nxB (enc := pv) b25 (fun b30 H31 => ift b30 (enM pv b25 (fun k33 x34 => f x34 (fun H36 => J28 () H36) H31) H31) (K H31)) H29) H := by
 refine .inr ⟨g, L, rfl, h.mg, fun it ob hn hI => ?_⟩
 have hle := Heap.le_put hn (g := .obj ob) (m := true)
 have hAit : A it = none := h.oh.le.none hn
 refine ⟨fun _ D => ∃ o2 vs, Chg (fun _ => True) o H o2 D ∧ It pv D it g L vs ∧ (∀ w, o2 it = some w → False) ∧ IxP o2 A D x m g L R (fun n => if n ∈ vs.map (fun q => q.1) then Rb2 n else Rb n), fun _ D => L.length - itN D it, ⟨o, [], Chg.of_le hle, hI, h.oh.no hn, ?_⟩, ?_⟩
 ·have h2 := h.up hle
  exact ⟨h2.oh, h2.hx, h2.om, h2.og, h2.rm, h2.mg, h2.bs⟩
 ·rintro _ D ⟨o2, vs, hc, hIt, hit, hP⟩
  refine .inr ⟨g, L, vs, hIt, fun hall => ?_, fun p hp hnv ob2 hI2 => ?_⟩
  ·refine Qd rfl (k o2 D hc ⟨hP.oh, hP.hx, hP.om, hP.og, hP.rm, hP.mg, fun p hp => ?_⟩)
   have := hP.bs p hp
   rw [if_pos (List.mem_map.2 ⟨p, hall p hp, rfl⟩)] at this
   exact this
  ·refine QE rfl ⟨p.1, p.2, ⟨g, L, vs, hI2⟩, ?_⟩
   have hgn : g ≠ it := fun e => hit _ (by rw [← e]; exact hP.og)
   have hne : ∀ c w, o2 c = some w → c ≠ it := fun c w hw e => hit w (by rw [← e]; exact hw)
   have hP2 : IxP o2 A (D.put it (.obj ob2)) x m g L R _ := hP.keep (fun c e hc2 => by
    have : c ≠ it := fun e' => by rw [e', hAit] at hc2; cases hc2
    rw [Heap.put_ne _ _ _ this]; exact hP.oh.le c e hc2) fun c w hw => Heap.put_ne _ _ _ (hne c w hw)
   have hc2 := hc.tmp (g := .obj ob2) (m := true) hn hit
   obtain ⟨b, ps, q1, q2, q3, q4⟩ := hP2.bs p hp
   have hnm := QnO h.mg.is.nd hIt.sub hp hnv
   rw [if_neg hnm] at q4
   rw [q1]
   refine step o2 _ p.1 b ps _ hc2 hP2.oh q3 q4 fun o3 D2 c3 b3 => ?_
   obtain ⟨⟨_, a1⟩, _, a2⟩ := hI2.at_
   have hog := hP2.og
   have hom := hP2.om
   have k1 := c3.kp it _ a1 fun w hw => (hit w hw).elim
   have k2 := c3.kp g _ a2 fun w hw hq => by rw [hog] at hw; injection hw with hw; subst hw; cases hq
   have hI3 := hI2.same (k1.trans a1.symm) (k2.trans a2.symm)
   refine ⟨⟨o3, vs ++ [p], hc2.trans (c3.imp fun _ _ => trivial), hI3, fun w hw => ?_, ⟨hP2.oh.chg c3, hP2.hx, c3.up _ _ hom, c3.up _ _ hog, ?_, hP2.mg.same (k2.trans a2.symm), fun p' hp' => ?_⟩⟩, ?_⟩
   ·rcases c3.dn _ _ hw with h1 | ⟨h1, _⟩
    ·exact hit w h1
    ·rw [Heap.put_same] at h1; cases h1
   ·obtain ⟨gm, hgm⟩ := hP2.rm.isS
    refine hP2.rm.same ((c3.kp m _ hgm fun w hw hq => ?_).trans hgm.symm)
    rw [hom] at hw; injection hw with hw; subst hw; cases hq
   ·by_cases hpp : p'.1 = p.1
    ·have := Qlj h.mg.is.nd hp' hp hpp
     subst this
     refine ⟨b, ps, q1, q2, q3, ?_⟩
     rw [if_pos (List.mem_map.2 ⟨_, List.mem_append_right _ (List.mem_singleton.2 rfl), rfl⟩)]
     exact b3
    ·obtain ⟨b', ps', r1, r2, r3, r4⟩ := hP2.bs p' hp'
     refine ⟨b', ps', r1, r2, r3, c3.by_ (n := p'.1) ?_ fun w hw e => hpp ?_⟩
     ·have he : (p'.1 ∈ (vs ++ [p]).map fun q => q.1) ↔ p'.1 ∈ vs.map fun q => q.1 := by
       rw [List.map_append, List.mem_append]
       exact ⟨fun h => h.elim id fun h => by simp at h; exact absurd h hpp, .inl⟩
      simp only [he]
      exact r4
     ·rw [hw] at e; injection e with e; exact e.symm
   ·have e1 := hI3.cnt
    have e2 := hI3.few
    have e3 := hIt.cnt
    simp only [List.length_append, List.length_singleton] at e1 e2
    dsimp only
    omega
end
end
section
open Go Go.Proofs
section
variable {C : Ctx} {o o2 : Own_} {A B H H2 : Heap} {x m g : Nat} {L : List (Str × Option (Nat × Nat))} {R R2 : List (List V)} {r : List V} {t : Sl}
def cR (l : List (List V)) : Str → List (List V) := fun _ => l
theorem IxP.grow (h : IxP o A H x m g L R (cR R)) (hle : A.le B) (hB : B.le H) (hap : ∀ c w, o c = some w → B c = none) : IxP o B H x m g L R (cR R) := by
 refine ⟨⟨hB, hap, h.oh.oh⟩, ?_, h.om, h.og, h.rm.up hle, h.mg, fun p hp => ?_⟩
 ·obtain ⟨mu, hx⟩ := h.hx
  exact ⟨mu, hle _ _ hx⟩
 ·obtain ⟨b, ps, q1, q2, q3, q4⟩ := h.bs p hp
  exact ⟨b, ps, q1, q2, q3, q4.up hle⟩
theorem QnE {K : Bool → Int → Heap → Prop} (h : IxP o A H x m g L R (cR R)) (hF : Fine R) (hv : VRow B t r) (hB : B.le H) (hf : fineV r) (hz : vsizes r ≤ 1000000)
 (k0 : mayR r = false → ∀ H2, H.le H2 → K false 4 H2)
 (k1 : mayR r = true → r ∈ R → ∀ H2, H.le H2 → K false 0 H2)
 (k2 : mayR r = true → r ∉ R → ∀ o2 A2 H2, Chg (fun _ => True) o H o2 H2 → A.le A2 → (∀ c, A2 c ≠ none → A c ≠ none ∨ H c = none) → IxP o2 A2 H2 x m g L (R ++ [r]) (cR (R ++ [r])) → K true 0 H2) : Qr C (some (x, 0)) t K H := by
 apply Qfq
 unfold QcM
 refine Qd rfl (Qjs hv hB hf (fun hm H4 h4 => Qd rfl ?_) fun hm H4 h4 => QE rfl (k0 hm H4 h4))
 have hP4 := h.up h4
 refine ⟨_, rfl, hP4.ld0 ?_⟩
 refine hP4.rm.look hF hf hm (fun hr s hs => QE rfl (k1 hm hr H4 h4)) fun hr => Qd rfl ?_
 refine Qkq hv (hB.trans h4) hz fun t2 H5 hM => ?_
 have hP5 := hP4.up hM.le
 refine ⟨_, rfl, hP5.ld0 ?_⟩
 have hle5 : (A.or (Heap.new H4 H5)).le H5 := Heap.or_le hP5.oh.le (Heap.new_le _ _)
 have hP5 : IxP o (A.or (Heap.new H4 H5)) H5 x m g L R (cR R) := hP5.grow Heap.le_or hle5 fun c w hw => Heap.or_none (h.oh.ap c w hw) (by
  cases hn : Heap.new H4 H5 c with
  | none => rfl
  | some e => exact absurd (Heap.new_inv hn).1 (hP4.oh.oh c w hw))
 have hN : (Heap.new H4 H5).le (A.or (Heap.new H4 H5)) := Heap.le_or2 fun c e hc => hP4.oh.le.none (Heap.new_inv hc).1
 have hAn : ∀ c, (A.or (Heap.new H4 H5)) c ≠ none → A c ≠ none ∨ H c = none := fun c hc => (Heap.or_some hc).imp id fun h => by
  cases hn : Heap.new H4 H5 c with
  | none => exact absurd hn h
  | some e => exact h4.none (Heap.new_inv hn).1
 have hrow := hM.row.le hN
 have hA2 : A.le (A.or (Heap.new H4 H5)) := Heap.le_or
 have hc5 : Chg (fun _ => True) o H o H5 := Chg.of_le (h4.trans hM.le)
 generalize A.or (Heap.new H4 H5) = A2 at *
 refine hP5.rm.put hrow fun g2 hR => ?_
 have hne : ∀ c w, o c = some w → w ≠ .rows → c ≠ m := fun c w hw e e' => by subst e'; rw [hP5.om] at hw; injection hw with hw; exact e hw.symm
 have hP6 : IxP o A2 (H5.put m g2) x m g L (R ++ [r]) (cR R) := by
  refine ⟨⟨fun c e hc => ?_, hP5.oh.ap, fun c w hw => ?_⟩, hP5.hx, hP5.om, hP5.og, hR, hP5.mg.same (Heap.put_ne _ _ _ (hne _ _ hP5.og (by intro h; cases h))), fun p hp => ?_⟩
  ·have : c ≠ m := fun e' => by rw [e', hP5.oh.ap _ _ hP5.om] at hc; cases hc
   rw [Heap.put_ne _ _ _ this]; exact hP5.oh.le c e hc
  ·by_cases hcm : c = m
   ·rw [hcm, Heap.put_same]; simp
   ·rw [Heap.put_ne _ _ _ hcm]; exact hP5.oh.oh c w hw
  ·obtain ⟨b, ps, q1, q2, q3, q4⟩ := hP5.bs p hp
   refine ⟨b, ps, q1, q2, q3, q4.keep fun c w hc hw => ⟨hc, Heap.put_ne _ _ _ (hne c w hc fun e => by subst e; cases hw)⟩⟩
 have hc6 : Chg (fun _ => True) o H o (H5.put m g2) := hc5.trans (Chg.put hP5.om trivial)
 refine ⟨_, rfl, hP6.ld1 ?_⟩
 refine QmI (Rb2 := cR (R ++ [r])) (f := fun q J D => Qab C q (keyB r) t2 J D) hP6 (fun o' D n b ps J hcD hO hps hBy kk => ?_) fun o2 D hc hP => k2 hm hr o2 A2 D (hc6.trans hc) hA2 hAn hP
 exact Qjm hBy hO hrow hf hps.1 fun o2 D2 q1 q2 => kk o2 D2 q1 q2
theorem Qnz {K : Bool → Heap → Prop} (h : IxP o A H x m g L R (cR R)) (hF : Fine R) (hv : VRow B t r) (hB : B.le H) (hf : fineV r) (k : ∀ b, (b = true ↔ r ∈ R) → ∀ H2, H.le H2 → K b H2) : QaP C (some (x, 0)) t K H := by
 apply Qfo
 unfold QcK
 refine Qd rfl (Qjs hv hB hf (fun hm H4 h4 => ?_) fun hm H4 h4 => ?_)
 ·have hP4 := h.up h4
  refine ⟨_, rfl, hP4.ld0 ?_⟩
  refine hP4.rm.look hF hf hm (fun hr s hs => ?_) fun hr => ?_
  ·exact k true ⟨fun _ => hr, fun _ => rfl⟩ H4 h4
  ·exact k false ⟨fun h => (by cases h), fun h => absurd h hr⟩ H4 h4
 ·have hP4 := h.up h4
  refine ⟨_, rfl, hP4.ld0 ?_⟩
  have hr : r ∉ R := fun hr => by rw [(hF r hr).2] at hm; cases hm
  have hk := k false ⟨fun h => (by cases h), fun h => absurd h hr⟩ H4 h4
  obtain ⟨l, h1, h2, h3⟩ := hP4.rm
  refine h1.is.lk (fun y hy => ?_) fun hy => ?_
  ·rw [Bool.false_and]; exact hk
  ·rw [Bool.false_and]; exact hk
theorem QnA {K : Int → Heap → Prop} (h : IxP o A H x m g L R (cR R)) (hF : Fine R) (hn : R.Nodup) (k : K R.length H) : QaQ C (some (x, 0)) K H := by
 apply Qfp
 unfold QcL
 exact Qd rfl ⟨_, rfl, h.ld0 (h.rm.ln hn hF k)⟩
theorem QnB {K : Option (Nat × Nat) → Heap → Prop} (k : ∀ x m g o A H2, H.le H2 → (∀ c w, o c = some w → H c = none) → (∀ c, A c ≠ none → H c = none) → IxP o A H2 x m g [] [] (cR []) → K (some (x, 0)) H2) : Qdz C K H := by
 apply Qje
 unfold Qgx
 intro m nm g ng x nx
 have l1 := Heap.le_put nm (g := .obj (.map #[] 0)) (m := true)
 have l2 := Heap.le_put ng (g := .obj (.map #[] 0)) (m := true)
 have l3 := Heap.le_put nx (g := .row (Qc.c (⟨some m, some g⟩ : Qc))) (m := true)
 have hmg : g ≠ m := fun e => by subst e; rw [Heap.put_same] at ng; cases ng
 have hxg : x ≠ g := fun e => by subst e; rw [Heap.put_same] at nx; cases nx
 have hxm : x ≠ m := fun e => by subst e; rw [Heap.put_ne _ _ _ hmg.symm, Heap.put_same] at nx; cases nx
 have hHg : H g = none := l1.none ng
 have hHx : H x = none := l1.none (l2.none nx)
 refine k x m g (fun c => if c = m then some .rows else if c = g then some .bys else none) (fun c => if c = x then some (true, .row (Qc.c (⟨some m, some g⟩ : Qc))) else none) _ (l1.trans (l2.trans l3)) (fun c w hw => ?_) (fun c hc => ?_) ⟨⟨fun c e hc => ?_, fun c w hw => ?_, fun c w hw => ?_⟩, ⟨true, by rw [if_pos rfl]; rfl⟩, by rw [if_pos rfl], by rw [if_neg hmg, if_pos rfl], ?_, ?_, fun p hp => by cases hp⟩
 ·split at hw
  ·rename_i e; rw [e]; exact nm
  ·split at hw
   ·rename_i e; rw [e]; exact hHg
   ·cases hw
 ·by_cases hcx : c = x
  ·rw [hcx]; exact hHx
  ·rw [if_neg hcx] at hc; exact absurd rfl hc
 ·split at hc
  ·rename_i e; rw [e, Heap.put_same, hc]
  ·cases hc
 ·split at hw
  ·rename_i e; rw [if_neg (by rw [e]; exact hxm.symm)]
  ·split at hw
   ·rename_i e; rw [if_neg (by rw [e]; exact hxg.symm)]
   ·cases hw
 ·split at hw
  ·rename_i e; rw [e, Heap.put_ne _ _ _ hxm.symm, Heap.put_ne _ _ _ hmg.symm, Heap.put_same]; simp
  ·split at hw
   ·rename_i e; rw [e, Heap.put_ne _ _ _ hxg.symm, Heap.put_same]; simp
   ·cases hw
 ·exact (RM.new (H := H) (b := m)).same (by rw [Heap.put_ne _ _ _ hxm.symm, Heap.put_ne _ _ _ hmg.symm])
 ·exact (MapS.new (H := H.put m (.obj (.map #[] 0))) (b := g)).same (by rw [Heap.put_ne _ _ _ hxg.symm])
end
end
section
open Go Go.Proofs
def Rm (R : List (List V)) (r : List V) : List (List V) := R.filter fun r' => decide (keyB r' ≠ keyB r)
theorem Qjd {R : List (List V)} {r r' : List V} (hF : Fine R) (hf : fineV r) (hm : mayR r = true) : r' ∈ Rm R r ↔ r' ∈ R ∧ r' ≠ r := by
 unfold Rm
 rw [List.mem_filter, decide_eq_true_iff]
 exact ⟨fun ⟨a, b⟩ => ⟨a, fun e => b (by rw [e])⟩, fun ⟨a, b⟩ => ⟨a, fun e => b (hF.inj a hf hm e)⟩⟩
section
variable {C : Ctx} {o o2 : Own_} {A B H H2 : Heap} {n : Str} {ps : List Int} {q b : Nat} {x m g : Nat} {L : List (Str × Option (Nat × Nat))} {LQ : List (Str × Option Nat)} {R R2 : List (List V)} {r : List V} {t : Sl}
/-- a row without a key goes -/
theorem BM.less (h : BM o A H n ps q R LQ) (hF : Fine R) (hf : fineV r) (hm : mayR r = true) (hk : keyAt ps r = none) : BM o A H n ps q (Rm R r) LQ := by
 obtain ⟨h1, h2, h3, h4⟩ := h
 refine ⟨h1, h2, fun p hp => ?_, fun r' hr' => h4 r' ((Qjd hF hf hm).1 hr').1⟩
 obtain ⟨e, q1, q2, q3⟩ := h3 p hp
 refine ⟨e, q1, q2, q3.congr fun r' => ?_⟩
 rw [List.mem_filter, List.mem_filter, Qjd hF hf hm]
 refine ⟨fun ⟨a, b⟩ => ⟨⟨a, fun e => ?_⟩, b⟩, fun ⟨⟨a, _⟩, b⟩ => ⟨a, b⟩⟩
 rw [e, hk] at b; simp at b
theorem BM.del {k : Str} {e : Nat} {K : Heap → Prop} (h : BM o A H n ps q R LQ) (hl : (k, some e) ∈ LQ) (hk : keyAt ps r = some k) (hF : Fine R) (hf : fineV r) (hm : mayR r = true)
 (kk : ∀ g, Chg (fun w => w.of = some n) o H o (H.put e g) → BM o A (H.put e g) n ps q (Rm R r) LQ → K (H.put e g)) : delS slv (some e) (keyB r) K H := by
 have hne := fun p e => h.ne (p := p) (e := e)
 obtain ⟨h1, h2, h3, h4⟩ := h
 obtain ⟨e', r1, r2, r3⟩ := h3 _ hl
 injection r1 with r1; subst r1
 obtain ⟨s1, _, _⟩ := hne _ e hl rfl
 refine r3.del fun g hR => kk g (Chg.put r2 rfl) ⟨h1, h2.same (by rw [Heap.put_ne _ _ _ s1.symm]), fun p hp => ?_, fun r' hr' => h4 r' ((Qjd hF hf hm).1 hr').1⟩
 obtain ⟨e', t1, t2, t3⟩ := h3 p hp
 refine ⟨e', t1, t2, ?_⟩
 by_cases hpk : p.1 = k
 ·rw [hpk] at t2 t3 ⊢
  have : p = (k, some e') := by rw [← hpk, ← t1]
  rw [this] at hp
  have h5 := Qbz h2.is.nd hp
  rw [Qbz h2.is.nd hl] at h5
  injection h5 with h5; injection h5 with h5; subst h5
  refine hR.congr fun r' => ?_
  unfold Rm
  rw [List.mem_filter, List.mem_filter, List.mem_filter, List.mem_filter]
  exact ⟨fun ⟨⟨a, b⟩, d⟩ => ⟨⟨a, d⟩, b⟩, fun ⟨⟨a, d⟩, b⟩ => ⟨⟨a, b⟩, d⟩⟩
 ·have hee : e' ≠ e := fun e2 => by
   subst e2
   rw [r2] at t2; injection t2 with t2; injection t2 with _ t2
   exact hpk t2.symm
  refine (t3.same (Heap.put_ne _ _ _ hee)).congr fun r' => ?_
  rw [List.mem_filter, List.mem_filter, Qjd hF hf hm]
  refine ⟨fun ⟨a, b⟩ => ⟨⟨a, fun e => ?_⟩, b⟩, fun ⟨⟨a, _⟩, b⟩ => ⟨a, b⟩⟩
  rw [e, hk] at b
  have b := of_decide_eq_true b
  injection b with b
  exact hpk b.symm
theorem Qny {K : Bool → Int → Heap → Prop} (h : IxP o A H x m g L R (cR R)) (hF : Fine R) (hv : VRow B t r) (hB : B.le H) (hf : fineV r)
 (k0 : mayR r = false → ∀ H2, H.le H2 → K false 4 H2)
 (k1 : mayR r = true → r ∉ R → ∀ H2, H.le H2 → K false 0 H2)
 (k2 : mayR r = true → r ∈ R → ∀ o2 H2, Chg (fun _ => True) o H o2 H2 → IxP o2 A H2 x m g L (Rm R r) (cR (Rm R r)) → K true 0 H2)
 (hBo : ∀ c w, o c = some w → B c = none) : QG C (some (x, 0)) t K H := by
 apply Qfn
 unfold QcJ
 refine Qd rfl (Qjs hv hB hf (fun hm H4 h4 => Qd rfl ?_) fun hm H4 h4 => QE rfl (k0 hm H4 h4))
 have hP4 := h.up h4
 refine ⟨_, rfl, hP4.ld0 ?_⟩
 refine hP4.rm.look hF hf hm (fun hr s hs => Qd rfl ?_) fun hr => QE rfl (k1 hm hr H4 h4)
 refine ⟨_, rfl, hP4.ld0 ?_⟩
 refine hP4.rm.del fun g2 hR => ?_
 have hne : ∀ c w, o c = some w → w ≠ .rows → c ≠ m := fun c w hw e e' => by subst e'; rw [hP4.om] at hw; injection hw with hw; exact e hw.symm
 have hP6 : IxP o A (H4.put m g2) x m g L (Rm R r) (cR R) := by
  refine ⟨⟨fun c e hc => ?_, hP4.oh.ap, fun c w hw => ?_⟩, hP4.hx, hP4.om, hP4.og, hR, hP4.mg.same (Heap.put_ne _ _ _ (hne _ _ hP4.og (by intro h; cases h))), fun p hp => ?_⟩
  ·have : c ≠ m := fun e' => by rw [e', hP4.oh.ap _ _ hP4.om] at hc; cases hc
   rw [Heap.put_ne _ _ _ this]; exact hP4.oh.le c e hc
  ·by_cases hcm : c = m
   ·rw [hcm, Heap.put_same]; simp
   ·rw [Heap.put_ne _ _ _ hcm]; exact hP4.oh.oh c w hw
  ·obtain ⟨b, ps, q1, q2, q3, q4⟩ := hP4.bs p hp
   refine ⟨b, ps, q1, q2, q3, q4.keep fun c w hc hw => ⟨hc, Heap.put_ne _ _ _ (hne c w hc fun e => by subst e; cases hw)⟩⟩
 have hc6 : Chg (fun _ => True) o H o (H4.put m g2) := (Chg.of_le h4).trans (Chg.put hP4.om trivial)
 have hB6 : B.le (H4.put m g2) := fun c e hc => by
  have : c ≠ m := fun e' => by rw [e', hBo _ _ hP4.om] at hc; cases hc
  rw [Heap.put_ne _ _ _ this]; exact h4 _ _ (hB _ _ hc)
 refine ⟨_, rfl, hP6.ld1 ?_⟩
 refine QmI (Rb2 := cR (Rm R r)) (f := fun q J D => Qbp C q t (fun r34 r35 H36 => ift r35 (nck q fun p38 => ldM H36 (p38.1, p38.2 + 1) fun x40 => lkM mv none x40 r34 (fun x42 is43 => delS slv x42 (keyB r) (fun H45 => J H45) H36) H36) (J H36)) D) hP6 (fun o' D n b ps J hcD hO hps hBy kk => ?_) fun o2 D hc hP => k2 hm hr o2 D (hc6.trans hc) hP
 obtain ⟨mu, t2, q, LQ, hb, hp, hBM⟩ := hBy
 have hBD : B.le D := fun c e hc => hcD.kp c e (hB6 c e hc) fun w hw _ => by rw [hBo c w hw] at hc; cases hc
 refine QnH (b := (b, 0)) (t := t2) (ps := ps) (A := Heap.or A B) (by rw [Q7 (hO.le _ _ hb)]; rfl) (SlIs.le Heap.le_or hp fun _ _ _ h => h) (hv.le ?_) (Heap.or_le hO.le hBD) hf hps.1 (fun key hkey H3 h3 => ?_) fun hkey H3 h3 => ?_
 ·exact Heap.le_or3 hO.le hBD
 ·have hO3 := hO.up h3
  have hB3 : BM o' A H3 n ps q R LQ := hBM.keep fun c w hc _ => ⟨hc, by
   cases he : D c with
   | none => exact absurd he (hO.oh c w hc)
   | some e => exact h3 c e he⟩
  refine QE rfl ⟨_, rfl, some q, by rw [Q7 (hO3.le _ _ hb)]; rfl, ?_⟩
  refine hB3.2.1.is.lk (fun y hy => ?_) fun hy => ?_
  ·have hl := Qbb hy
   obtain ⟨e, q1, q2, q3⟩ := hB3.2.2.1 _ hl
   dsimp only at q1; subst q1
   exact hB3.del hl hkey hF hf hm fun g3 c3 b3 => kk o' _ ((Chg.of_le h3).trans c3) ⟨mu, t2, q, LQ, hb, hp, b3⟩
  ·obtain ⟨e, he⟩ := hB3.2.2.2 r hr _ hkey
   rw [Qbz hB3.2.1.is.nd he] at hy; cases hy
 ·have hO3 := hO.up h3
  have hB3 : BM o' A H3 n ps q R LQ := hBM.keep fun c w hc _ => ⟨hc, by
   cases he : D c with
   | none => exact absurd he (hO.oh c w hc)
   | some e => exact h3 c e he⟩
  exact Qd rfl (kk o' H3 (Chg.of_le h3) ⟨mu, t2, q, LQ, hb, hp, hB3.less hF hf hm hkey⟩)
end
end
section
open Go Go.Proofs
/-- what is called behind keeps the world's blocks: it has grown -/
theorem Qm4 {w1 w' : World} {H' : Heap} (h : St (ctxOf w1) w' H') : ∃ q os', w' = Go.Sort.grow (w1.drewN q) os' := by
 have h1 : w'.os = w1.os := congrArg (fun q : Os × (Nat → Question → Nat) => q.1) h.os.1
 have h2 : w'.tape = w1.tape := congrArg (fun q : Os × (Nat → Question → Nat) => q.2) h.os.1
 have h3 : w1.drawn ≤ w'.drawn := h.os.2
 have h4 : w'.output = w1.output := h.out
 have h5 : w1.heap.size ≤ w'.heap.size := h.old_le
 have h6 : ∀ i, i < w1.heap.size → w'.heap[i]? = w1.heap[i]? := fun i hi => h.old i hi
 refine ⟨w'.drawn - w1.drawn, w'.heap.extract w1.heap.size w'.heap.size, ?_⟩
 have hh : w'.heap = w1.heap ++ w'.heap.extract w1.heap.size w'.heap.size := by
  apply Array.ext_getElem?
  intro i
  rw [Array.getElem?_append]
  split
  ·exact h6 i ‹_›
  ·rw [Array.getElem?_extract]
   have e : w1.heap.size + (i - w1.heap.size) = i := by omega
   rw [e]
   split
   ·rfl
   ·rw [Array.getElem?_eq_none (by omega)]
 have hd : w'.drawn = w1.drawn + (w'.drawn - w1.drawn) := by omega
 unfold Go.Sort.grow World.drewN
 generalize w'.drawn - w1.drawn = q at *
 generalize w'.heap.extract w1.heap.size w'.heap.size = es at *
 obtain ⟨a1, a2, a3, a4, a5⟩ := w'
 obtain ⟨b1, b2, b3, b4, b5⟩ := w1
 simp only at *
 subst h1; subst h2; subst h4; subst hd; subst hh
 rfl
theorem QmU {A B : Heap} (h : ∀ p v, rd A p = some v → rd B p = some v) : ∀ {cs : List Value} {p : Nat × Nat}, rds A p cs → rds B p cs
 | [], _, _ => trivial
 | v :: r, p, ⟨h1, h2⟩ => ⟨h _ _ h1, QmU h h2⟩
theorem QlA {A B : Heap} (h : ∀ p v, rd A p = some v → rd B p = some v) {s : Sl} {cs : List Value} (hr : rdsl A s cs) : rdsl B s cs := by
 rcases hr with hr | ⟨a, p, b, c⟩
 ·exact .inl hr
 ·exact .inr ⟨a, p, b, QmU h c⟩
mutual
theorem VIs.to {A B : Heap} (h : ∀ p v, rd A p = some v → rd B p = some v) : ∀ {v : V} {x : TV}, VIs A v x → VIs B v x
 | .mk k n s l, x, ⟨h1, h2, h3, xs, h4, h5, h6⟩ => ⟨h1, h2, h3, xs, QlA h h4, h5, VsAre.to h h6⟩
theorem VsAre.to {A B : Heap} (h : ∀ p v, rd A p = some v → rd B p = some v) : ∀ {l : List V} {xs : List TV}, VsAre A l xs → VsAre B l xs
 | [], [], _ => trivial
 | v :: l, x :: xs, ⟨h1, h2⟩ => ⟨VIs.to h h1, VsAre.to h h2⟩
end
theorem VRow.to {A B : Heap} (h : ∀ p v, rd A p = some v → rd B p = some v) {t : Sl} {l : List V} (hr : VRow A t l) : VRow B t l := by
 obtain ⟨xs, h1, h2, h3⟩ := hr
 exact ⟨xs, QlA h h1, h2, h3.to h⟩
/-- what is read in a part of the heap is read in a world that keeps its blocks -/
theorem Qmn {C : Ctx} {w w1 : World} {A H : Heap} (hs : St C w H) (hA : A.le H) (hb : ∀ c, A c ≠ none → w1.heap[c]? = w.heap[c]?) (p : Nat × Nat) (v : Value) (h : rd A p = some v) : rd (heapOf w1) p = some v := by
 unfold rd at h
 split at h
 ·rename_i m g hg
  obtain ⟨ob, ho, hr⟩ := hs.blk _ _ _ (hA _ _ hg)
  have hw1 := (hb p.1 (by rw [hg]; simp)).trans ho
  cases hc : g.cells? with
  | none => rw [hc] at h; cases h
  | some c =>
   rw [hc] at h
   have : ∃ t fr, ob = .cells c.toArray t fr := by
    cases g <;> simp only [GO.cells?, Option.some.injEq, reduceCtorEq] at hc <;> cases ob <;> simp only [GO.rel] at hr
    ·subst hc; exact ⟨_, _, by rw [hr.1]⟩
    ·subst hc; exact ⟨_, _, by rw [hr.1]⟩
   obtain ⟨t, fr, e⟩ := this
   subst e
   unfold rd heapOf
   rw [hw1]
   exact h
 ·cases h
end
section
open Go Go.Proofs
/-- a row that can be compared, in a part of memory -/
def ZR (A : Heap) : Type := {z : Sl × List V // VRow A z.1 z.2 ∧ VBs z.2 ∧ z.2.length ≤ 140737488355328}
instance (A : Heap) : Inhabited (ZR A) := ⟨⟨(Sl.nil, []), ⟨[], .inl rfl, rfl, trivial⟩, trivial, Nat.zero_le _⟩⟩
def ZR.cf {A : Heap} (a b : ZR A) : Int := cmpR a.1.2 b.1.2
theorem Qnp (A : Heap) : Go.Sort.SWO (ltOf (ZR.cf (A := A))) := by
 have hL := Lin.row
 refine ⟨fun x => ?_, fun x y z h1 h2 => ?_, fun x y z h1 h2 => ?_⟩
 ·have := hL.refl (a := x.1.2) trivial
  unfold ltOf ZR.cf; rw [this]; rfl
 ·have h1 := of_decide_eq_true h1
  have h2 := of_decide_eq_true h2
  have := (hL.tr x.1.2 y.1.2 z.1.2 trivial trivial trivial (by unfold ZR.cf at h1; omega) (by unfold ZR.cf at h2; omega)).2 (.inl h1)
  exact decide_eq_true this
 ·have h1 := of_decide_eq_false h1
  have h2 := of_decide_eq_false h2
  refine decide_eq_false ?_
  unfold ZR.cf at *
  have a1 := hL.anti x.1.2 y.1.2 trivial trivial
  have a2 := hL.anti y.1.2 z.1.2 trivial trivial
  have a3 := hL.anti x.1.2 z.1.2 trivial trivial
  have := (hL.tr z.1.2 y.1.2 x.1.2 trivial trivial trivial (by omega) (by omega)).1
  omega
theorem QjM {α : Type} [Inhabited α] {enc : α → Value} {w : World} {blk m c : Nat} {dk : Array α} {os : Array Obj} (hc : c ≠ blk) (hl : c < w.heap.size) : (sortWorld enc w blk 0 m dk os).heap[c]? = w.heap[c]? := by
 unfold sortWorld Go.Sort.grow Go.Sort.putRow Go.Sort.mapBlock Go.Sort.ahead
 simp only
 rw [Array.getElem?_append_left (by simpa using hl), Array.getElem?_modify, if_neg hc.symm]
theorem QlZ {C : Ctx} {w : World} {H A : Heap} {blk size : Nat} (hs : St C w H) (hA : A.le H) (hb : A blk = none) : CmpLays1 Tryz.prog 53 #[] (fun z : ZR A => slv z.1.1) ZR.cf blk 0 size w := by
 intro m os dk hd x y
 have hrd : ∀ p v, rd A p = some v → rd (heapOf (sortWorld (fun z : ZR A => slv z.1.1) w blk 0 m dk os)) p = some v := fun p v h =>
  Qmn hs hA (fun c hc => QjM (fun e => hc (by rw [e]; exact hb)) (by
   cases hac : A c with
   | none => exact absurd hac hc
   | some e => exact hs.lt (hA _ _ hac))) p v h
 have hspec : Qcc (ctxOf (sortWorld (fun z : ZR A => slv z.1.1) w blk 0 m dk os)) x.1.1 y.1.1 (fun r _ => r = cmpR x.1.2 y.1.2) (heapOf (sortWorld (fun z : ZR A => slv z.1.1) w blk 0 m dk os)) :=
  Qj0 (x.2.1.to hrd) (y.2.1.to hrd) x.2.2.2 y.2.2.2 x.2.2.1 y.2.2.1 rfl
 have hcall := hspec _ (QjN _)
 refine hcall.mono ?_
 rintro e w' ⟨v, H', rfl, hst, r, rfl, hr⟩
 subst hr
 exact ⟨rfl, Qm4 hst⟩
theorem Qla {C : Ctx} {w : World} {H A : Heap} {blk : Nat} {d : Array (ZR A)} {sp : List Value} (hs : St C w H) (hb : H blk = some (true, .row ((d.toList.map fun z => slv z.1.1) ++ sp))) : Go.Sort.Holds (fun z : ZR A => slv z.1.1) w blk 0 d := by
 intro j hj
 obtain ⟨ob, ho, hr⟩ := hs.blk _ _ _ hb
 cases ob <;> simp only [GO.rel] at hr
 rename_i c t fr
 obtain ⟨rfl, hfr⟩ := hr
 have hfr := hfr trivial
 have hl : 0 + j < ((d.toList.map fun z : ZR A => slv z.1.1) ++ sp).length := by simp; omega
 constructor
 ·unfold World.cell?
  simp only [ho]
  rw [if_neg (by simp), List.getElem?_toArray, Nat.zero_add, List.getElem?_append_left (by simpa using hj), List.getElem?_map, Array.getElem?_toList, Array.getElem?_eq_getElem hj]
  simp [hj]
 ·unfold World.frozen?
  simp only [ho]
  obtain ⟨lo, hi⟩ := fr
  simp only at hfr ⊢
  rcases hfr with h | h
  ·subst h; simp; try omega
  ·simp; try omega
theorem St.putR {α : Type} [Inhabited α] {enc : α → Value} {C : Ctx} {w : World} {H : Heap} {b : Nat} {cs sp : List Value} {d : Array α} (hs : St C w H) (hb : H b = some (true, .row (cs ++ sp))) (hl : cs.length = d.size) : St C (Go.Sort.putRow enc w b 0 d) (H.put b (.row ((d.toList.map enc) ++ sp))) := by
 obtain ⟨ob, ho, hr⟩ := hs.blk _ _ _ hb
 cases ob <;> simp only [GO.rel] at hr
 rename_i c t fr
 obtain ⟨rfl, hfr⟩ := hr
 have hfr := hfr trivial
 refine hs.set hb (o' := .cells (Go.Sort.putCells enc 0 d (cs ++ sp).toArray) t fr) ⟨rfl, rfl, ?_, fun x hx => ?_⟩ ⟨?_, fun _ => ?_⟩
 ·unfold Go.Sort.putRow Go.Sort.mapBlock
  simp only
  rw [Array.getElem?_modify, if_pos rfl, ho]
  rfl
 ·unfold Go.Sort.putRow Go.Sort.mapBlock
  simp only
  rw [Array.getElem?_modify, if_neg hx.symm]
 ·apply Array.ext_getElem?
  intro k
  unfold Go.Sort.putCells
  rw [Array.getElem?_mapIdx, List.getElem?_toArray, List.getElem?_toArray, Nat.zero_add]
  by_cases hk : k < d.size
  ·have hk1 : k < cs.length := by omega
   have hk2 : k < (d.toList.map enc).length := by simpa using hk
   have e1 : (cs ++ sp)[k]? = some cs[k] := by rw [List.getElem?_append_left hk1, List.getElem?_eq_getElem hk1]
   have e2 : (d.toList.map enc ++ sp)[k]? = some (enc d[k]) := by rw [List.getElem?_append_left hk2, List.getElem?_map, Array.getElem?_toList, Array.getElem?_eq_getElem hk]; rfl
   rw [e1, e2]
   simp [hk]
  ·have e1 : (cs ++ sp)[k]? = sp[k - d.size]? := by rw [List.getElem?_append_right (by omega), hl]
   have e2 : (d.toList.map enc ++ sp)[k]? = sp[k - d.size]? := by rw [List.getElem?_append_right (by simp; omega)]; simp
   rw [e1, e2]
   cases hsp : sp[k - d.size]? with
   | none => rfl
   | some v => simp [hk]
 ·simp only [List.length_append, List.length_map, Array.length_toList] at hfr ⊢
  omega
theorem St.sortW {α : Type} [Inhabited α] {enc : α → Value} {C : Ctx} {w : World} {H : Heap} {b n : Nat} {cs sp : List Value} {d : Array α} {os : Array Obj} (hs : St C w H) (hb : H b = some (true, .row (cs ++ sp))) (hl : cs.length = d.size) : St C (sortWorld enc w b 0 n d os) (H.put b (.row ((d.toList.map enc) ++ sp))) := by
 have h1 := St.putR (enc := enc) (hs.drewN n) hb hl
 have h2 := St.growL os.toList h1
 rw [Array.toArray_toList] at h2
 exact h2
theorem QlQ {A : Heap} : ∀ (zs : List (Sl × List V)), (∀ z ∈ zs, VRow A z.1 z.2 ∧ VBs z.2 ∧ z.2.length ≤ 140737488355328) → ∃ dl : List (ZR A), dl.map (fun z => z.1) = zs
 | [], _ => ⟨[], rfl⟩
 | z :: zs, h => by
  obtain ⟨dl, e⟩ := QlQ zs fun z hz => h z (List.mem_cons_of_mem _ hz)
  exact ⟨⟨z, h z (List.mem_cons_self ..)⟩ :: dl, congrArg (fun l => z :: l) e⟩
theorem Qkz {C : Ctx} {H0 H : Heap} {s : Sl} {zs : List (Sl × List V)} {K : Heap → Prop} (ho : OwnF H0 H 1 s (zs.map fun z => slv z.1)) (hz : ∀ z ∈ zs, VRow (H.off s) z.1 z.2 ∧ VBs z.2 ∧ z.2.length ≤ 140737488355328) (hn : zs.length ≤ 1000000000)
 (k : ∀ (ws : List (Sl × List V)) H2, ws.Perm zs → ws.Pairwise (fun a b => cmpR a.2 b.2 ≤ 0) → OwnF H0 H2 1 s (ws.map fun z => slv z.1) → H2.off s = H.off s → K H2) : QM C s (.func (.func 53) (List.toArray []) (List.toArray [])) K H := by
 intro w hw
 obtain ⟨hle, ⟨hlen, hx, hcap, hcase⟩, hfr⟩ := ho
 have hlen : s.len = zs.length := by simpa using hlen.symm
 by_cases h0 : zs = []
 ·have hl0 : s.len = 0 := by rw [hlen, h0]; rfl
  have hall := AnyF.slices_SortFunc_none (P := Tryz.prog) (ρ := Tryz.laysSrt_ren) (by have L := Tryz.laysSrt; exact { L with }) s.ad s.cap (.func (.func 53) #[] #[]) w
  have harg : (#[.slice s.ad 0 s.cap, .func (.func 53) #[] #[]] : Array Value) = [slv s, .func (.func 53) (List.toArray []) (List.toArray [])].toArray := by
   unfold slv; rw [hl0]
  rw [← harg]
  refine hall.mono ?_
  rintro e w' ⟨rfl, rfl⟩
  exact ⟨.tuple #[], H, rfl, hw, rfl, k zs H (List.Perm.refl _) (by rw [h0]; exact .nil) ⟨hle, ⟨by simpa using hlen.symm, hx, hcap, hcase⟩, hfr⟩ rfl⟩
 ·rcases hcase with ⟨_, hc0⟩ | ⟨b, sp, hp, hb, hsz⟩
  ·have : zs.length = 0 := by omega
   exact absurd (List.length_eq_zero_iff.1 this) h0
  ·have hoff : (H.off s) b = none := Heap.off_fresh s H _ hp
   have had : s.ad = some ⟨b, 0, none⟩ := by unfold Sl.ad; rw [hp, hx]; rfl
   obtain ⟨dl, hdl⟩ := QlQ zs hz
   have hdv : dl.toArray.toList.map (fun z : ZR (H.off s) => z.1) = zs := hdl
   have hdm : (dl.toArray.toList.map fun z : ZR (H.off s) => slv z.1.1) = zs.map fun z => slv z.1 := by
    rw [← hdv, List.map_map]; rfl
   have hds : dl.toArray.size = zs.length := by rw [← hdv]; simp
   generalize dl.toArray = d at *
   have hall := Any.slices_SortFunc Tryz.laysSrt (fun z : ZR (H.off s) => slv z.1.1) (fun z => rfl) ZR.cf (Qnp _) 53 #[] b 0 s.cap d w (Qek QgQ) (QlZ hw (Heap.off_le s H) hoff) (Qla (sp := sp) hw (by rw [hdm]; exact hb)) (hw.lt hb) (by omega)
   have harg : (#[.slice (some ⟨b, 0, none⟩) d.size s.cap, .func (.func 53) #[] #[]] : Array Value) = [slv s, .func (.func 53) (List.toArray []) (List.toArray [])].toArray := by
    unfold slv; rw [had, hds, hlen]
   rw [← harg]
   refine hall.mono ?_
   rintro e w' ⟨rfl, d', n, os, hperm, hsort, rfl⟩
   obtain ⟨p1, _, p3⟩ := hperm
   have hP : d'.toList.Perm d.toList := by
    have e1 : d'.extract 0 d.size = d' := by rw [← p1]; simp
    have e2 : d.extract 0 d.size = d := by simp
    rw [e1, e2] at p3; exact p3
   have hwp : (d'.toList.map fun z : ZR (H.off s) => z.1).Perm zs := by
    have := hP.map (fun z : ZR (H.off s) => z.1)
    rw [hdv] at this; exact this
   have hst := St.sortW (enc := fun z : ZR (H.off s) => slv z.1.1) (n := n) (os := os) (d := d') hw hb (by rw [List.length_map, p1, hds])
   refine ⟨.tuple #[], _, rfl, hst, rfl, k (d'.toList.map fun z => z.1) _ hwp ?_ ⟨?_, ⟨?_, hx, hcap, .inr ⟨b, sp, hp, ?_, ?_⟩⟩, hfr⟩ ?_⟩
   ·rw [List.pairwise_map, List.pairwise_iff_getElem]
    intro i j hi hj hij
    have hj2 : j < d'.size := by simpa using hj
    have hi2 : i < d'.size := by omega
    have h1 := of_decide_eq_false (hsort i j (Nat.zero_le _) hij (by omega))
    have e1 : d'[i]! = d'[i] := by simp [hi2]
    have e2 : d'[j]! = d'[j] := by simp [hj2]
    rw [e1, e2] at h1
    unfold ZR.cf at h1
    have := Lin.row.anti d'[i].1.2 d'[j].1.2 trivial trivial
    simp only [Array.getElem_toList]
    omega
   ·intro c e hc
    have : c ≠ b := fun e' => by rw [e'] at hc; have := hfr _ hp; rw [this] at hc; cases hc
    rw [Heap.put_ne _ _ _ this]; exact hle _ _ hc
   ·rw [List.length_map, hwp.length_eq]; omega
   ·rw [Heap.put_same, List.map_map]; rfl
   ·rw [List.map_map] at *
    simp only [List.length_append, List.length_map, Array.length_toList] at hsz ⊢
    omega
   ·funext c
    unfold Heap.off
    split
    ·rfl
    ·rename_i hc
     have : c ≠ b := fun e => hc (by rw [hp, e]; rfl)
     rw [Heap.put_ne _ _ _ this]
end
section
open Go Go.Proofs
/-- rising rows -/
def Rise (T : List (List V)) : Prop := T.Pairwise fun a b => cmpR a b < 0
/-- rows told: rising, those of R, each in new memory -/
structure Told (H H2 : Heap) (R T : List (List V)) (s : Sl) (ys : List Sl) : Prop where
 og : Og H H2 T s ys
 len : ys.length = T.length
 rise : Rise T
 perm : T.Perm R
section
variable {C : Ctx} {A H H2 D : Heap} {m it : Nat} {R : List (List V)}
theorem OwnF.del {H0 H : Heap} {z : Nat} {s : Sl} {cs : List Value} {e : Bool × GO} (h : OwnF H0 H z s cs) (hi : H0 it = some e) : OwnF (H0.del it) (H.del it) z s cs := by
 obtain ⟨h1, ⟨h2, h3, h4, h5⟩, h6⟩ := h
 refine ⟨fun c e' hc => ?_, ⟨h2, h3, h4, ?_⟩, h6.le (Heap.del_le _ _)⟩
 ·by_cases hci : c = it
  ·rw [hci, Heap.del_same] at hc; cases hc
  ·rw [Heap.del_ne _ hci] at hc ⊢; exact h1 _ _ hc
 ·rcases h5 with h5 | ⟨b, sp, q1, q2, q3⟩
  ·exact .inl h5
  ·refine .inr ⟨b, sp, q1, ?_, q3⟩
   have : b ≠ it := fun e' => by have := h6 _ q1; rw [e', hi] at this; cases this
   rw [Heap.del_ne _ this]; exact q2
theorem Qk7 {s : Sl} : (H.del it).off s = (H.off s).del it := by
 funext c
 unfold Heap.off Heap.del
 by_cases h1 : c = it
 ·rw [if_pos h1, if_pos h1]; split <;> rfl
 ·rw [if_neg h1, if_neg h1]
theorem Qlv {g : GO} {mu : Bool} : (H.put it g mu).del it = H.del it := by
 funext c
 by_cases h1 : c = it
 ·rw [h1, Heap.del_same, Heap.del_same]
 ·rw [Heap.del_ne _ h1, Heap.del_ne _ h1, Heap.put_ne _ _ _ h1]
theorem Made.del {r : List V} {t : Sl} {e : Bool × GO} (h : Made D H2 r t) (hi : D it = some e) : Made (D.del it) (H2.del it) r t := by
 have hn : ∀ c, D c = none → c ≠ it := fun c hc e' => by rw [e', hi] at hc; cases hc
 refine ⟨fun c e' hc => ?_, h.row.le fun c e' hc => ?_, ?_, h.cp⟩
 ·by_cases hci : c = it
  ·rw [hci, Heap.del_same] at hc; cases hc
  ·rw [Heap.del_ne _ hci] at hc ⊢; exact h.le _ _ hc
 ·obtain ⟨q1, q2⟩ := Heap.new_inv hc
  exact Heap.new_some (by rw [Heap.del_ne _ (hn c q1)]; exact q2) (by rw [Heap.del_ne _ (hn c q1)]; exact q1)
 ·obtain ⟨j, hj⟩ := h.sp
  exact ⟨j, hj.to fun c e' hc he => ⟨by rw [Heap.del_ne _ (hn c hc)]; exact hc, by rw [Heap.del_ne _ (hn c hc)]; exact he⟩⟩
theorem Og.more {B : Heap} {ls : List (List V)} {s : Sl} {ys : List Sl} {r : List V} (h : Og H B ls s ys) (hl : ys.length = ls.length) : Og H B (ls ++ [r]) s ys :=
 ⟨h.own, by simp; omega, fun j l y hj hy => h.done j l y (by
  have := (List.getElem?_eq_some_iff.1 hy).1
  rw [List.getElem?_append_left (by omega)] at hj; exact hj) hy⟩
theorem Qgu (hF : Fine R) (hn : R.Nodup) {ls : List (List V)} (hs : ∀ r ∈ ls, r ∈ R) (hp : (ls.map keyB).Perm (R.map keyB)) : ls.Perm R := by
 have h1 : (R.map keyB).Nodup := by
  rw [List.Nodup, List.pairwise_map]
  exact List.Pairwise.imp_of_mem (fun {a b} ha hb hab e => hab (hF.inj ha (hF b hb).1 (hF b hb).2 e)) hn
 have h2 : (ls.map keyB).Nodup := hp.symm.nodup h1
 have h3 : ls.Nodup := by
  rw [List.Nodup, List.pairwise_map] at h2
  exact h2.imp fun {a b} hab e => hab (by rw [e])
 refine (List.perm_ext_iff_of_nodup h3 hn).2 fun r => ⟨hs r, fun hr => ?_⟩
 have : keyB r ∈ ls.map keyB := hp.symm.subset (List.mem_map.2 ⟨r, hr, rfl⟩)
 obtain ⟨r', hr', e⟩ := List.mem_map.1 this
 rw [← hF.inj (hs r' hr') (hF r hr).1 (hF r hr).2 e]; exact hr'
theorem QlP : ∀ {ys : List Sl} {ls : List (List V)}, ys.length = ls.length → (ys.zip ls).map (fun z => z.1) = ys ∧ (ys.zip ls).map (fun z => z.2) = ls
 | [], [], _ => ⟨rfl, rfl⟩
 | y :: ys, l :: ls, h => by
  obtain ⟨h1, h2⟩ := QlP (ys := ys) (ls := ls) (by simpa using h)
  simp [h1, h2]
theorem QnX {ys : List Sl} {ls : List (List V)} {z : Sl × List V} (h : z ∈ ys.zip ls) : ∃ j : Nat, ls[j]? = some z.2 ∧ ys[j]? = some z.1 := by
 obtain ⟨j, hj⟩ := List.mem_iff_getElem?.1 h
 rw [List.getElem?_zip_eq_some] at hj
 exact ⟨j, hj.2, hj.1⟩
theorem QlM {K : Sl → Heap → Prop} (h : RM A H m R) (hA : A.le H) (hF : Fine R) (hn : R.Nodup) (hz : ∀ r ∈ R, vsizes r ≤ 1000000) (hlen : R.length ≤ 1000000)
 (k : ∀ T s ys H2, Told H H2 R T s ys → K s H2) : Qai C (some m) K H := by
 apply Qfr
 unfold QdT
 obtain ⟨l, h1, h2, h3⟩ := h
 have hll : l.length = R.length := by
  have := (RM.perm ⟨l, h1, h2, h3⟩ hn hF h1 h2 h3).length_eq
  rwa [List.length_map, List.length_map] at this
 obtain ⟨gm, hgm⟩ := RM.isS (A := A) (R := R) ⟨l, h1, h2, h3⟩
 refine .inr ⟨m, l, rfl, h1, fun it ob hit hI => ?_⟩
 refine ⟨fun s D => ∃ vs ls ys, It slv D it m l vs ∧ Og H (D.del it) ls s ys ∧ ys.length = ls.length ∧ ls.map keyB = vs.map (fun p => p.1) ∧ ∀ r ∈ ls, r ∈ R, fun _ D => l.length - itN D it, ⟨[], [], [], hI, ?_, rfl, rfl, fun r hr => by cases hr⟩, ?_⟩
 ·rw [Qlv]
  have : H.del it = H := by
   funext c
   by_cases hc : c = it
   ·rw [hc, Heap.del_same, hit]
   ·rw [Heap.del_ne _ hc]
  rw [this]; exact Og.nil
 ·rintro s D ⟨vs, ls, ys, hIt, hO, hyl, hk, hR⟩
  have hlsl : ls.length = vs.length := by have := congrArg List.length hk; simpa using this
  refine .inr ⟨m, l, vs, hIt, fun hall => ?_, fun p hp hnv ob2 hI2 => ?_⟩
  ·refine Qd rfl ?_
   have hperm : ls.Perm R := by
    refine Qgu hF hn hR ?_
    rw [hk]
    refine List.Perm.trans ?_ (RM.perm ⟨l, h1, h2, h3⟩ hn hF h1 h2 h3)
    refine (List.perm_ext_iff_of_nodup ?_ ?_).2 fun q => ?_
    ·rw [List.Nodup, List.pairwise_map]; exact hIt.nd
    ·rw [List.Nodup, List.pairwise_map]; exact h1.is.nd
    ·constructor
     ·intro hq
      obtain ⟨p, hp, e⟩ := List.mem_map.1 hq
      exact List.mem_map.2 ⟨p, hIt.sub p hp, e⟩
     ·intro hq
      obtain ⟨p, hp, e⟩ := List.mem_map.1 hq
      exact List.mem_map.2 ⟨p, hall p hp, e⟩
   obtain ⟨z1, z2⟩ := QlP hyl
   have hdone : ∀ z ∈ ys.zip ls, Made H ((D.del it).off s) z.2 z.1 := fun z hz => by
    obtain ⟨j, a, b⟩ := QnX hz
    exact hO.done j _ _ a b
   have hoffle : ((D.del it).off s).le (D.off s) := by rw [Qk7]; exact Heap.del_le _ _
   refine Qkz (H0 := H) (zs := ys.zip ls) ?_ (fun z hz => ?_) ?_ fun ws H3 hw hs hown hoff => ?_
   ·rw [show (ys.zip ls).map (fun z => slv z.1) = ((ys.zip ls).map (fun z => z.1)).map slv by rw [List.map_map]; rfl, z1]
    exact hO.own.up (Heap.del_le _ _)
   ·have hr : z.2 ∈ R := hR _ (by rw [← z2]; exact List.mem_map.2 ⟨z, hz, rfl⟩)
    have hf := (hF _ hr).1
    refine ⟨(hdone z hz).row2.le hoffle, hf.1, by have := hf.2.1; omega⟩
   ·rw [List.length_zip, hyl, Nat.min_self, hperm.length_eq]; omega
   ·have hTp : (ws.map fun z => z.2).Perm R := by
     refine List.Perm.trans ?_ hperm
     have := hw.map fun z : Sl × List V => z.2
     rw [z2] at this; exact this
    have hTn : (ws.map fun z => z.2).Nodup := hTp.symm.nodup hn
    refine k (ws.map fun z => z.2) s (ws.map fun z => z.1) H3 ⟨⟨?_, by simp, fun j l' y hj hy => ?_⟩, by simp, ?_, hTp⟩
    ·rw [List.map_map]; exact hown
    ·rw [List.getElem?_map] at hj hy
     cases hwj : ws[j]? with
     | none => rw [hwj] at hj; cases hj
     | some z =>
      rw [hwj] at hj hy
      simp only [Option.map_some, Option.some.injEq] at hj hy
      subst hj; subst hy
      rw [hoff]
      exact (hdone z (hw.subset (List.mem_of_getElem? hwj))).up hoffle
    ·have hs2 : (ws.map fun z => z.2).Pairwise fun a b => cmpR a b ≤ 0 := by rw [List.pairwise_map]; exact hs
     refine List.Pairwise.imp_of_mem (fun {a b} ha hb hab => ?_) (hs2.and hTn)
     have ra := (hF _ (hTp.subset ha)).2
     have rb := (hF _ (hTp.subset hb)).2
     have hne : cmpR a b ≠ 0 := fun e => hab.2 ((Qjo ra rb).1 e)
     have := hab.1
     omega
  ·refine QE rfl ⟨p.1, p.2, ⟨m, l, vs, hI2⟩, ?_⟩
   obtain ⟨r, hr, hpk, hv⟩ := h2 p hp
   obtain ⟨⟨ob3, a1⟩, ob4, a2⟩ := hI2.at_
   have hAit : A it = none := hA.none hit
   have hHD : H.le (D.del it) := hO.own.le
   have hDel : ((D.put it (.obj ob2)).del it) = D.del it := Qlv
   have hle : (D.del it).le (D.put it (.obj ob2)) := by rw [← hDel]; exact Heap.del_le _ _
   refine Qkq hv ((hA.trans hHD).trans hle) (hz r hr) fun t2 H3 hM => ?_
   have hM2 := hM.del a1
   rw [hDel] at hM2
   have hOwn3 : Own H3 1 s (ys.map slv) := (hO.own.own.le hle).le hM.le
   have hsit : ∀ q, s.p = some q → q.1 ≠ it := fun q hq e => by
    obtain ⟨g, hg⟩ := hO.own.own.mine hq
    rw [e, Heap.del_same] at hg; cases hg
   have hsm : ∀ q, s.p = some q → q.1 ≠ m := fun q hq e => by
    have := hO.own.fresh q hq
    rw [e, hgm] at this; cases this
   have hit3 : (H3.off s) it = some (true, .obj ob3) := Heap.off_some (hM.le _ _ a1) hsit
   have hm3 : (H3.off s) m = some (true, .obj ob4) := Heap.off_some (hM.le _ _ a2) hsm
   have hsl : s.len = ys.length := by have := hOwn3.1; simpa using this.symm
   have hfew := hIt.few
   refine Qb4 (zc := [slv Sl.nil]) hOwn3.off rfl (by omega) (by omega) fun r2 H4 q1 q2 => ?_
   have e1 := hI2.cnt
   have e2 := hI2.few
   have e3 := hIt.cnt
   have hI4 : It slv H4 it m l (vs ++ [p]) := hI2.same ((q1.le _ _ hit3).trans a1.symm) ((q1.le _ _ hm3).trans a2.symm)
   have e4 := hI4.cnt
   simp only [List.length_append, List.length_singleton] at e1 e2 e4
   refine ⟨⟨vs ++ [p], ls ++ [r], ys ++ [t2], hI4, ?_, by simp [hyl], by rw [List.map_append, List.map_append, hk]; simp [hpk], fun r' hr' => ?_⟩, by dsimp only; omega⟩
   ·have hq : OwnF ((H3.del it).off s) (H4.del it) 1 r2 (ys.map slv ++ [slv t2]) := by rw [Qk7]; exact q1.del hit3
    have hi : ys.length < (ls ++ [r]).length := by simp; omega
    refine Og.step (hO.more hyl) hi ?_ hq
    have : (ls ++ [r])[ys.length] = r := by
     rw [List.getElem_append_right (by omega)]; simp
    rw [this]; exact hM2
   ·rcases List.mem_append.1 hr' with hr' | hr'
    ·exact hR r' hr'
    ·rw [List.mem_singleton] at hr'; rw [hr']; exact hr
theorem Told.nil : Told H H [] [] Sl.nil [] := ⟨Og.nil, rfl, .nil, List.Perm.refl _⟩
theorem QlL {K : Sl → Heap → Prop} (k : ∀ T s ys H2, Told H H2 [] T s ys → K s H2) : Qai C none K H := by
 apply Qfr
 unfold QdT
 refine .inl ⟨rfl, fun it hit => ?_⟩
 refine ⟨fun s D => s = Sl.nil ∧ D = H.put it (.obj (.mapIter none 0 #[] 0)), fun _ _ => 0, ⟨rfl, rfl⟩, ?_⟩
 rintro _ D ⟨rfl, rfl⟩
 refine .inl ⟨Heap.put_same .., Qd rfl ?_⟩
 refine Qkz (H0 := H) (zs := []) ⟨Heap.le_put hit, Own.nil _ 1, Fresh.nil _⟩ (fun z hz => by cases hz) (by simp) fun ws H3 hw hs hown hoff => ?_
 have : ws = [] := List.Perm.eq_nil hw
 subst this
 exact k [] Sl.nil [] H3 ⟨⟨hown, Nat.le_refl _, fun j l y hj => by simp at hj⟩, rfl, .nil, List.Perm.refl _⟩
end
end
section
open Go Go.Proofs
def bk (x : Str) : Str := 32 :: x
def jS : List Str → Str
 | [] => []
 | a :: l => a ++ l.flatMap bk
theorem Qne : ∀ ps : List Int, nmOf ps = jS (ps.map Lib.itoa)
 | [] => rfl
 | p :: ps => by simp only [nmOf, List.map_cons, jS, List.flatMap_map]; rfl
def cS (x : Str) : List Value := [sv x]
def SL (A : Heap) := SlIs (fun v x : Str => x = v) cS A
theorem SL.tail {A : Heap} {s : Sl} {a : Str} {l : List Str} {K : Sl → Prop} (h : SL A s (a :: l)) (hc : s.len ≤ s.cap) (hl : l ≠ []) (k : ∀ t, SL A t l → K t) : slL s 1 (s.len : Int) (s.cap : Int) 1 K := by
 have hlen := SlIs.len h
 have hl0 : 0 < l.length := List.length_pos_iff.2 hl
 simp only [List.length_cons] at hlen
 refine ⟨by omega, by omega, by omega, Int.le_refl _, _, rfl, k _ ?_⟩
 obtain ⟨xs, h1, h2, h3, h4, h5⟩ := h
 cases xs with
 | nil => simp at h3
 | cons x xs =>
  rcases h1 with h1 | ⟨hx, p, hp, hr⟩
  ·simp [cS] at h1
  ·have hne : ¬ ((s.cap : Int) = 1) := by omega
   refine ⟨xs, .inr ⟨?_, (p.1, p.2 + 1), ?_, ?_⟩, ?_, ?_, ?_, ?_⟩
   ·simp only; rw [if_neg (by simp; omega)]
   ·simp only; rw [if_neg hne, hp]; rfl
   ·rw [List.flatMap_cons] at hr
    exact hr.2
   ·simp only [List.length_cons] at h2 ⊢; omega
   ·simpa using h3
   ·simp only [List.length_cons] at h4 ⊢; omega
   ·intro i v y hv hy
    exact h5 (i + 1) v y (by simpa using hv) (by simpa using hy)
theorem Qnr {m : Int} (h1 : 1 ≤ m) (h2 : m ≤ 1000000) : 2 ≤ Int.tdiv 9223372036854775807 m ∧ Int.tdiv 9223372036854775807 m ≤ 9223372036854775807 := by
 rw [Int.tdiv_eq_ediv_of_nonneg (by omega)]
 refine ⟨Int.le_ediv_of_mul_le (by omega) (by omega), Int.ediv_le_self _ (by omega)⟩
theorem QlK {l : List Str} {i : Nat} (h : i < l.length) (f : Str → Str) : (l.take (i + 1)).flatMap f = (l.take i).flatMap f ++ f l[i] := by
 rw [List.take_add_one, List.getElem?_eq_getElem h, Option.toList_some, List.flatMap_append, List.flatMap_singleton]
theorem Ql5 {l : List Str} {z : Nat} {f : Str → Str} (h : ∀ x ∈ l, (f x).length ≤ z) : (l.flatMap f).length ≤ l.length * z := by
 induction l with
 | nil => simp
 | cons a l ih =>
  have h1 := h a (List.mem_cons_self ..)
  have h2 := ih fun x hx => h x (List.mem_cons_of_mem _ hx)
  rw [List.flatMap_cons, List.length_append, List.length_cons, Nat.add_mul]; omega
theorem Qm5 {C : Ctx} {A H : Heap} {s : Sl} {ns : List Str} {K : Str → Heap → Prop} (h : SL A s ns) (hA : A.le H) (hc : s.len ≤ s.cap) (hn : ns.length ≤ 10000) (hz : ∀ x ∈ ns, x.length ≤ 100) (k : ∀ H2, H.le H2 → K (jS ns) H2) : Qc0 C s [32] K H := by
 apply Qg7
 unfold Qes
 have hlen := SlIs.len h
 refine ift.of (fun h0 => ?_) fun h0 => ift.of (fun h1 => ?_) fun h1 => ?_
 ·have : ns = [] := List.length_eq_zero_iff.1 (by simp at h0; omega)
  subst this; exact k H (Heap.le.refl _)
 ·have hl : ns.length = 1 := by simp at h1; omega
  match ns, hl with
  | [a], _ =>
   refine SlIs.fS h hA (i := 0) (j := 0) (z := 1) (fun _ => rfl) (by omega) rfl (by simp) (f := fun y => y) (fun y => rfl) fun y hy => ?_
   subst hy
   have := k H (Heap.le.refl _)
   simpa [jS] using this
 ·have hl2 : 2 ≤ ns.length := by
   have a1 : ns.length ≠ 0 := fun e => by rw [hlen, e] at h0; simp at h0
   have a2 : ns.length ≠ 1 := fun e => by rw [hlen, e] at h1; simp at h1
   omega
  have hsl : s.len = ns.length := hlen
  obtain ⟨a, l, rfl⟩ : ∃ a l, ns = a :: l := by cases ns with
   | nil => simp at hl2
   | cons a l => exact ⟨a, l, rfl⟩
  have hlne : l ≠ [] := fun e => by subst e; simp at hl2
  simp only [List.length_cons] at hsl hn hl2
  refine ⟨fun x B => x = ((l.length : Nat) : Int) ∧ B = H, ?_, ?_⟩
  ·have e1 : w .i64 ((s.len : Int) - 1) = (l.length : Int) := by rw [Qm (by omega) (by omega)]; omega
   rw [e1]
   refine QE (by simp) ⟨by omega, ?_⟩
   obtain ⟨t1, t2⟩ := Qnr (m := (l.length : Int)) (by omega) (by omega)
   rw [Qm (by omega) (by omega)]
   refine Qd (decide_eq_false (by simp; omega)) ⟨?_, rfl⟩
   have e2 : w .i64 ((([32] : Str).length : Int) * (l.length : Int)) = (l.length : Int) := by
    rw [Qm (by simp) (by simp; omega)]; simp
   rw [e2, Qm (by omega) (by omega)]; omega
  ·rintro x0 B0 ⟨rfl, e0⟩
   have e0 := e0.symm
   subst e0
   refine ⟨fun y B => B = H ∧ ∃ i m : Nat, y.2 = (i : Int) ∧ i ≤ l.length + 1 ∧ y.1 = (m : Int) ∧ m ≤ l.length + i * 100, fun y _ => l.length + 1 - y.2.toNat, ⟨rfl, 0, l.length, rfl, by omega, rfl, by omega⟩, ?_⟩
   rintro ⟨y1, y2⟩ B0 ⟨e0, i, m, rfl, hi, rfl, hm⟩
   have e0 := e0.symm
   subst e0
   refine ift.of (fun hlt => ?_) fun hlt => ?_
   ·have hil : i < l.length + 1 := by have := of_decide_eq_true hlt; dsimp only at this; omega
    refine SlIs.fS h hA (i := i) (j := 0) (z := 1) (fun _ => rfl) (by omega) rfl (by simpa using hil) (f := fun y => y) (fun y => rfl) fun y hy => ?_
    have hyz : y.length ≤ 100 := by rw [hy]; exact hz _ (List.getElem_mem _)
    refine Qd (decide_eq_false ?_) ⟨⟨rfl, i + 1, m + y.length, ?_, by omega, ?_, by omega⟩, ?_⟩
    ·dsimp only
     rw [Qm (by omega) (by omega)]; omega
    ·dsimp only; rw [Qm (by omega) (by omega)]; omega
    ·dsimp only; rw [Qm (by omega) (by omega)]; omega
    ·dsimp only; rw [Qm (by omega) (by omega)]; omega
   ·intro b nb
    have lb := Heap.le_put nb (g := .trow 84 0 [pv none, slv Sl.nil]) (m := true)
    refine QlR (Heap.put_same ..) (by omega) ?_
    have hbase : H.le ((H.put b (.trow 84 0 [pv none, slv Sl.nil])).put b (Bd [])) := lb.put _ _ nb
    have hib : IsB tyB tyE ((H.put b (.trow 84 0 [pv none, slv Sl.nil])).put b (Bd [])) b [] := IsB.put
    generalize (H.put b (.trow 84 0 [pv none, slv Sl.nil])).put b (Bd []) = E at *
    refine SlIs.fS h (hA.trans hbase) (i := 0) (j := 0) (z := 1) (fun _ => rfl) (by omega) rfl (by simp) (f := fun y => y) (fun y => rfl) fun y hy => ?_
    have hya : y = a := hy
    subst hya
    have hy100 : y.length ≤ 100 := hz _ (List.mem_cons_self ..)
    refine QcS hib (by simp; omega) ?_
    refine SL.tail h hc hlne fun t ht => ?_
    have hE1 : H.le (E.put b (Bd ([] ++ y))) := hbase.put _ _ nb
    have hI1 : IsB tyB tyE (E.put b (Bd ([] ++ y))) b y := IsB.put
    have hfl : ∀ j, ((l.take j).flatMap bk).length ≤ 1010000 := fun j => by
     have h1 := Ql5 (l := l.take j) (f := bk) (z := 101) fun x hx => by
      have := hz x (List.mem_cons_of_mem _ (List.mem_of_mem_take hx))
      simp only [bk, List.length_cons]; omega
     have h2 : (l.take j).length ≤ 10000 := by rw [List.length_take]; omega
     have := Nat.mul_le_mul_right 101 h2
     omega
    refine ⟨fun x B => ∃ j : Nat, x = (j : Int) ∧ j ≤ l.length ∧ H.le B ∧ IsB tyB tyE B b (y ++ (l.take j).flatMap bk), fun x _ => l.length - x.toNat, ⟨0, rfl, Nat.zero_le _, hE1, by simpa using hI1⟩, ?_⟩
    rintro _ B ⟨j, rfl, hj, hB, hI⟩
    have htl := SlIs.len ht
    have hf := hfl j
    refine ift.of (fun hlt => ?_) fun hlt => ?_
    ·have hjl : j < l.length := by have := of_decide_eq_true hlt; omega
     refine SlIs.fS ht (hA.trans hB) (i := j) (j := 0) (z := 1) (fun _ => rfl) (by omega) rfl hjl (f := fun y => y) (fun y => rfl) fun q hq => ?_
     have hq100 : q.length ≤ 100 := by rw [hq]; exact hz _ (List.mem_cons_of_mem _ (List.getElem_mem _))
     refine QcS hI (by simp only [List.length_append, List.length_cons, List.length_nil]; omega) ?_
     refine QcS IsB.put (by simp only [List.length_append, List.length_cons, List.length_nil]; omega) ?_
     refine ⟨⟨j + 1, ?_, by omega, (hB.put _ _ nb).put _ _ nb, ?_⟩, ?_⟩
     ·rw [Qm (by omega) (by omega)]; omega
     ·rw [QlK hjl, ← hq]
      have : (y ++ (List.take j l).flatMap bk ++ [32] ++ q) = y ++ ((List.take j l).flatMap bk ++ bk q) := by simp [bk]
      rw [← this]; exact IsB.put
     ·dsimp only; rw [Qm (by omega) (by omega)]; omega
    ·have hje : j = l.length := by have := of_decide_eq_false hlt; omega
     subst hje
     rw [List.take_length] at hI hf
     refine QkV hI (by simp only [List.length_append]; omega) (k _ (hB.put _ _ nb))
end
section
open Go Go.Proofs
theorem split32 : ∀ {a b x y : Str}, (∀ c ∈ a, c ≠ 32) → (∀ c ∈ b, c ≠ 32) → (∀ c, x.head? = some c → c = 32) → (∀ c, y.head? = some c → c = 32) → a ++ x = b ++ y → a = b ∧ x = y
 | [], [], x, y, _, _, _, _, h => ⟨rfl, h⟩
 | [], d :: b, x, y, _, hb, hx, _, h => absurd (hx d (by rw [List.nil_append] at h; rw [h]; rfl)) (hb d (List.mem_cons_self ..))
 | c :: a, [], x, y, ha, _, _, hy, h => absurd (hy c (by rw [List.nil_append] at h; rw [← h]; rfl)) (ha c (List.mem_cons_self ..))
 | c :: a, d :: b, x, y, ha, hb, hx, hy, h => by
  simp only [List.cons_append, List.cons.injEq] at h
  obtain ⟨h1, h2⟩ := split32 (fun q hq => ha q (List.mem_cons_of_mem _ hq)) (fun q hq => hb q (List.mem_cons_of_mem _ hq)) hx hy h.2
  exact ⟨by rw [h.1, h1], h2⟩
theorem QiM {n : Int} {c : UInt8} (h : c ∈ Lib.itoa n) : c ≠ 32 := fun e => by
 subst e
 rcases Ql7 h with h | h
 ·exact absurd h (by decide)
 ·exact absurd h (by decide)
def nmT (l : List Int) : Str := l.flatMap fun q => 32 :: Lib.itoa q
theorem QgX (l : List Int) (c : UInt8) (h : (nmT l).head? = some c) : c = 32 := by
 cases l with
 | nil => cases h
 | cons a l => simp only [nmT, List.flatMap_cons, List.cons_append, List.head?_cons, Option.some.injEq] at h; exact h.symm
theorem Qll : ∀ {l m : List Int}, nmT l = nmT m → l = m
 | [], [], _ => rfl
 | [], b :: m, h => by simp [nmT] at h
 | a :: l, [], h => by simp [nmT] at h
 | a :: l, b :: m, h => by
  have e : ∀ (a : Int) (l : List Int), nmT (a :: l) = 32 :: (Lib.itoa a ++ nmT l) := fun a l => by simp [nmT]
  rw [e, e] at h
  injection h with _ h
  obtain ⟨h1, h2⟩ := split32 (fun c hc => QiM hc) (fun c hc => QiM hc) (QgX l) (QgX m) h
  rw [Qkk h1, Qll h2]
theorem Qmc {l m : List Int} (h : nmOf l = nmOf m) : l = m := by
 have e : ∀ (a : Int) (l : List Int), nmOf (a :: l) = Lib.itoa a ++ nmT l := fun a l => rfl
 cases l with
 | nil => cases m with
  | nil => rfl
  | cons b m =>
   rw [e] at h
   have := congrArg List.length h
   have h2 := List.length_pos_iff.2 (Qld b)
   rw [List.length_append] at this
   change 0 = _ at this
   omega
 | cons a l => cases m with
  | nil =>
   rw [e] at h
   have := congrArg List.length h
   simp [nmOf] at this; exact absurd this.1 (Qld a)
  | cons b m =>
   rw [e, e] at h
   obtain ⟨h1, h2⟩ := split32 (fun c hc => QiM hc) (fun c hc => QiM hc) (QgX l) (QgX m) h
   rw [Qkk h1, Qll h2]
section
variable {C : Ctx} {A H H2 : Heap}
theorem OwnF.new {z : Nat} {s : Sl} {cs : List Value} (h : OwnF H H2 z s cs) : Own (Heap.new H H2) z s cs := by
 obtain ⟨h1, ⟨q1, q2, q3, q4⟩, h3⟩ := h
 refine ⟨q1, q2, q3, ?_⟩
 rcases q4 with q4 | ⟨b, sp, r1, r2, r3⟩
 ·exact .inl q4
 ·exact .inr ⟨b, sp, r1, Heap.new_some r2 (h3 _ r1), r3⟩
theorem QjS {H0 H : Heap} {zc : List Value} {bytes : Nat} {s t : Sl} {cs ys : List Value} {K : Sl → Heap → Prop} (h : OwnF H0 H zc.length s cs) (ht : rdsl H t ys) (hy : ys.length = t.len * zc.length) (h1 : ∀ u ∈ ys, u.oneCell' = true)
 (hb : (s.len + t.len) * bytes ≤ 140737488355328) (h63 : s.len + t.len ≤ 9223372036854775807) (k : ∀ r H2, OwnF H0 H2 zc.length r (cs ++ ys) → r.len = s.len + t.len → K r H2) : apS zc bytes s t K H :=
 ⟨ys, ht, h1, Qb4 h hy hb h63 k⟩
theorem QkZ {t : Sl} {ps : List Int} {K : Sl → Heap → Prop} (h : IL A t ps) (hA : A.le H) (hn : ps.length ≤ 10000) (k : ∀ t2 H2, H.le H2 → IL (Heap.new H H2) t2 ps → K t2 H2) : QW C t K H := by
 apply Qdt
 unfold Qbu
 have hlen := SlIs.len h
 obtain ⟨xs, h1, h2, h3, h4, h5⟩ := h
 have hfl : (xs.flatMap cI).length = xs.length := by
  have : ∀ l : List Int, (l.flatMap cI).length = l.length := fun l => by induction l with
   | nil => rfl
   | cons a l ih => rw [List.flatMap_cons, List.length_append, ih]; simp [cI]; omega
  exact this xs
 refine ift.of (fun hnil => ?_) fun hnil => ?_
 ·have hps : ps = [] := by
   rcases h1 with h1 | ⟨hx, p, hp, _⟩
   ·have : xs.length = 0 := by rw [← hfl, h1]; rfl
    exact List.length_eq_zero_iff.1 (by omega)
   ·unfold Sl.isNil at hnil; rw [hp] at hnil; cases hnil
  subst hps
  exact k Sl.nil H (Heap.le.refl _) ⟨[], .inl rfl, rfl, rfl, Nat.zero_le _, fun i v y hv => by simp at hv⟩
 ·intro b nb
  have lb := Heap.le_put nb (g := .row []) (m := true)
  refine QjS (H0 := H) (zc := [.int .i64 0]) (cs := []) (ys := xs.flatMap cI) ⟨lb, ⟨by simp, rfl, Nat.le_refl _, .inr ⟨b, [], rfl, Heap.put_same .., by simp⟩⟩, fun q hq => (by simp only [Option.some.injEq] at hq; subst hq; exact nb)⟩ (QaY (hA.trans lb) h1) (by rw [hfl]; simp; omega) (fun u hu => ?_) (by dsimp only; omega) (by dsimp only; omega) fun r H2 q1 q2 => ?_
  ·obtain ⟨x, _, hx⟩ := List.mem_flatMap.1 hu
   simp only [cI, List.mem_singleton] at hx
   subst hx; rfl
  ·refine k r H2 q1.le ⟨xs, by simpa using q1.new.rdsl, by rw [q2]; dsimp only; omega, h3, h4, h5⟩
end
end
section
open Go Go.Proofs
section
variable {C : Ctx} {o o2 : Own_} {A B H H2 : Heap} {n : Str} {x m g b q : Nat} {L : List (Str × Option (Nat × Nat))} {LQ : List (Str × Option Nat)} {R : List (List V)} {Rb : Str → List (List V)} {ps : List Int}
theorem IxP.own (h : IxP o A H x m g L R Rb) (hO : OH o2 A H) (hup : ∀ c w, o c = some w → o2 c = some w) : IxP o2 A H x m g L R Rb := by
 refine ⟨hO, h.hx, hup _ _ h.om, hup _ _ h.og, h.rm, h.mg, fun p hp => ?_⟩
 obtain ⟨b, ps, q1, q2, q3, q4⟩ := h.bs p hp
 exact ⟨b, ps, q1, q2, q3, q4.keep fun c w hc _ => ⟨hup c w hc, rfl⟩⟩
theorem IxP.chgN (h : IxP o A H x m g L R Rb) (hc : Chg (fun w => w.of = some n) o H o2 H2) (hn : ∀ p ∈ L, p.1 ≠ n) : IxP o2 A H2 x m g L R Rb := by
 have hkp : ∀ c w e, o c = some w → w.of ≠ some n → H c = some e → H2 c = some e := fun c w e hw hne he => hc.kp c e he fun w' hw' => by rw [hw] at hw'; injection hw' with hw'; subst hw'; exact hne
 obtain ⟨g1, hg1⟩ := h.rm.isS
 obtain ⟨es, ck, hm⟩ := h.mg
 refine ⟨h.oh.chg hc, h.hx, hc.up _ _ h.om, hc.up _ _ h.og, h.rm.same ?_, MapS.same (l := L) ⟨es, ck, hm⟩ ?_, fun p hp => ?_⟩
 ·rw [hg1]; exact hkp _ _ _ h.om (by intro e; cases e) hg1
 ·rw [hm.at_]; exact hkp _ _ _ h.og (by intro e; cases e) hm.at_
 ·obtain ⟨b, ps, q1, q2, q3, q4⟩ := h.bs p hp
  exact ⟨b, ps, q1, q2, q3, hc.by_ q4 fun w hw e => hn p hp (by rw [hw] at e; injection e with e; exact e.symm)⟩
/-- all rows put to new places -/
theorem QnP {K : Heap → Prop} {t : Nat} (h : IxP o A H x m g L R (cR R)) (hB : By o A H n ps b []) (hps : PsOk ps) (hF : Fine R) (hn : R.Nodup) (hnm : ∀ p ∈ L, p.1 ≠ n)
 (k : ∀ o2 D, Chg (fun w => w.of = some n) o H o2 D → IxP o2 A D x m g L R (cR R) → By o2 A D n ps b R → K D) :
 rgM slv (some m) (fun b46 H47 => lp (α := Unit) () H47 fun x48 J49 H50 => nxB (enc := slv) b46 (fun b51 H52 => ift b51 (enM slv b46 (fun k54 x55 => Qab C (some (b, 0)) k54 x55 (fun H57 => J49 () H57) H52) H52) (K H52)) H50) H := by
 obtain ⟨l, h1, h2, h3⟩ := h.rm
 refine .inr ⟨m, l, rfl, h1, fun it ob hit hI => ?_⟩
 have hle := Heap.le_put hit (g := .obj ob) (m := true)
 have hAit : A it = none := h.oh.le.none hit
 refine ⟨fun _ D => ∃ o2 vs ls, Chg (fun w => w.of = some n) o H o2 D ∧ It slv D it m l vs ∧ (∀ w, o2 it = some w → False) ∧ OH o2 A D ∧ By o2 A D n ps b ls ∧ ls.map keyB = vs.map (fun p => p.1) ∧ (∀ r ∈ ls, r ∈ R), fun _ D => l.length - itN D it, ⟨o, [], [], Chg.of_le hle, hI, h.oh.no hit, h.oh.up hle, hB.keep fun c w hc _ => ⟨hc, (h.oh.eq (P := fun _ => True) hle hc)⟩, rfl, fun r hr => by cases hr⟩, ?_⟩
 rintro _ D ⟨o2, vs, ls, hc, hIt, hio, hO, hBy, hk, hR⟩
 refine .inr ⟨m, l, vs, hIt, fun hall => ?_, fun p hp hnv ob2 hI2 => ?_⟩
 ·have hperm : ls.Perm R := by
   refine Qgu hF hn hR ?_
   rw [hk]
   refine List.Perm.trans ?_ (RM.perm ⟨l, h1, h2, h3⟩ hn hF h1 h2 h3)
   refine (List.perm_ext_iff_of_nodup ?_ ?_).2 fun q => ?_
   ·rw [List.Nodup, List.pairwise_map]; exact hIt.nd
   ·rw [List.Nodup, List.pairwise_map]; exact h1.is.nd
   ·constructor
    ·intro hq
     obtain ⟨p, hp, e⟩ := List.mem_map.1 hq
     exact List.mem_map.2 ⟨p, hIt.sub p hp, e⟩
    ·intro hq
     obtain ⟨p, hp, e⟩ := List.mem_map.1 hq
     exact List.mem_map.2 ⟨p, hall p hp, e⟩
  exact Qd rfl (k o2 D hc (h.chgN hc hnm) (hBy.congr fun r => hperm.mem_iff))
 ·obtain ⟨r, hr, hpk, hv⟩ := h2 p hp
  refine QE rfl ⟨p.1, p.2, ⟨m, l, vs, hI2⟩, ?_⟩
  have hc2 := hc.tmp (g := .obj ob2) (m := true) hit hio
  have hne : ∀ c w, o2 c = some w → c ≠ it := fun c w hw e => hio w (by rw [← e]; exact hw)
  have hO2 : OH o2 A (D.put it (.obj ob2)) := ⟨fun c e hc3 => by
   have : c ≠ it := fun e' => by rw [e', hAit] at hc3; cases hc3
   rw [Heap.put_ne _ _ _ this]; exact hO.le c e hc3, hO.ap, fun c w hw => by rw [Heap.put_ne _ _ _ (hne c w hw)]; exact hO.oh c w hw⟩
  rw [hpk]
  refine Qjm (hBy.keep fun c w hc _ => ⟨hc, Heap.put_ne _ _ _ (hne c w hc)⟩) hO2 hv (hF r hr).1 hps.1 fun o3 D2 c3 b3 => ?_
  obtain ⟨⟨_, a1⟩, _, a2⟩ := hI2.at_
  have hom : o2 m = some .rows := hc.up _ _ h.om
  have k1 := c3.kp it _ a1 fun w hw => (hio w hw).elim
  have k2 := c3.kp m _ a2 fun w hw hq => by rw [hom] at hw; injection hw with hw; subst hw; cases hq
  have hI3 := hI2.same (k1.trans a1.symm) (k2.trans a2.symm)
  refine ⟨⟨o3, vs ++ [p], ls ++ [r], hc2.trans c3, hI3, fun w hw => ?_, hO2.chg c3, b3, by rw [List.map_append, List.map_append, hk]; simp [hpk], fun r' hr' => ?_⟩, ?_⟩
  ·rcases c3.dn _ _ hw with h1 | ⟨h1, _⟩
   ·exact hio w h1
   ·rw [Heap.put_same] at h1; cases h1
  ·rcases List.mem_append.1 hr' with hr' | hr'
   ·exact hR r' hr'
   ·rw [List.mem_singleton] at hr'; rw [hr']; exact hr
  ·have e1 := hI3.cnt
   have e2 := hI3.few
   have e3 := hIt.cnt
   simp only [List.length_append, List.length_singleton] at e1 e2
   dsimp only
   omega
/-- the rows at some places with these values -/
def sel (R : List (List V)) (ps : List Int) (k : Str) : List (List V) := R.filter fun r => decide (keyAt ps r = some k)
theorem Fine.filter {f : List V → Bool} (h : Fine R) : Fine (R.filter f) := fun r hr => h r ((List.mem_filter.1 hr).1)
theorem Qk9 : ∀ l : List Int, (l.map Lib.itoa).flatMap cS = l.map fun p => sv (Lib.itoa p)
 | [] => rfl
 | a :: l => by rw [List.map_cons, List.flatMap_cons, Qk9 l]; rfl
/-- the names of places, as they are told -/
theorem Qmb (hFm : FmtC C) {s : Sl} {K : Sl × Int → Heap → Prop} (hp : IL B s ps) (hB : B.le H) (hps : PsOk ps) (k : ∀ y H2, H.le H2 → SL H2 y.1 (ps.map Lib.itoa) → y.1.len ≤ y.1.cap → K y H2) :
 lp (α := Sl × Int) (Sl.nil, 0) H (fun x7 J8 H9 => ift (decide ((x7.2 : Int) < (Sl.len s : Int))) (ixa s x7.2 fun p11 => ldI H9 .i64 (p11.1, p11.2 + (x7.2 : Int).toNat * 1) fun x16 => Qau C x16 (fun r18 H19 => apd ([sv []]) 16 x7.1 ([sv r18]) 1 (fun r20 H21 => J8 (r20, (w .i64 (x7.2 + 1))) H21) H19) H9) (K x7 H9)) := by
 have hlen := SlIs.len hp
 have hn := hps.1
 refine ⟨fun y D => ∃ i : Nat, y.2 = (i : Int) ∧ i ≤ ps.length ∧ OwnF H D 1 y.1 ((ps.take i).map fun p => sv (Lib.itoa p)), fun y _ => ps.length - y.2.toNat, ⟨0, rfl, Nat.zero_le _, OwnF.nil H 1⟩, ?_⟩
 rintro ⟨s1, _⟩ D ⟨i, rfl, hi, ho⟩
 have hsl : s1.len = i := by have := ho.len; simp only [List.length_map, List.length_take] at this; omega
 refine ift.of (fun hlt => ?_) fun hlt => ?_
 ·have hil : i < ps.length := by have := of_decide_eq_true hlt; dsimp only at this; omega
  refine SlIs.fI hp (hB.trans ho.le) (z := 1) (fun _ => rfl) (by omega) rfl hil (j := 0) (f := fun x => x) (fun _ => rfl) fun y hy => ?_
  subst hy
  have hr := hps.2 _ (List.getElem_mem hil)
  refine hFm.ok hr.1 hr.2 ?_
  refine Qb4 (zc := [sv []]) ho rfl (by dsimp only; omega) (by dsimp only; omega) fun r D2 q1 q2 => ?_
  rw [Qm (by dsimp only; omega) (by dsimp only; omega)]
  refine ⟨⟨i + 1, by dsimp only; omega, by omega, ?_⟩, by first | omega | (dsimp only; omega)⟩
  have : (ps.take (i + 1)).map (fun p => sv (Lib.itoa p)) = (ps.take i).map (fun p => sv (Lib.itoa p)) ++ [sv (Lib.itoa ps[i])] := by
   rw [List.take_add_one, List.getElem?_eq_getElem hil, Option.toList_some, List.map_append]; rfl
  rw [this]; exact q1
 ·have hie : i = ps.length := by have := of_decide_eq_false hlt; dsimp only at this; omega
  subst hie
  rw [List.take_length] at ho
  refine k (s1, ((ps.length : Nat) : Int)) D ho.le ⟨ps.map Lib.itoa, ?_, by simp; exact hsl, rfl, by simp; omega, fun i v y hv hy => ?_⟩ ho.own.2.2.1
  ·have e := Qk9 ps
   rw [e]; exact ho.own.rdsl
  ·rw [hv] at hy; injection hy with hy; exact hy.symm
end
end
section
open Go Go.Proofs
section
variable {C : Ctx} {o o2 : Own_} {A B H H2 : Heap} {n : Str} {x m g b q : Nat} {L : List (Str × Option (Nat × Nat))} {R : List (List V)} {ps : List Int} {vs : List V} {s t : Sl}
/-- what was found, told -/
theorem Qns {k : Str} {K : Sl → Heap → Prop} (hB : By o A H n ps b R) (hA : A.le H) (hF : Fine R) (hn : R.Nodup) (hz : ∀ r ∈ R, vsizes r ≤ 1000000) (hlen : R.length ≤ 1000000)
 (kk : ∀ T s ys H2, Told H H2 (sel R ps k) T s ys → K s H2) : nck (some (b, 0)) fun p63 => ldM H (p63.1, p63.2 + 1) fun x65 => lkM mv none x65 k (fun x67 is68 => Qai C x67 (fun r70 H71 => K r70 H71) H) H := by
 obtain ⟨mu, t2, q, LQ, hb, hp, hBM⟩ := hB
 refine ⟨_, rfl, some q, by rw [Q7 (hA _ _ hb)]; rfl, ?_⟩
 refine hBM.2.1.is.lk (fun y hy => ?_) fun hy => ?_
 ·obtain ⟨e, q1, q2, q3⟩ := hBM.2.2.1 _ (Qbb hy)
  dsimp only at q1; subst q1
  refine QlM q3 hA hF.filter (hn.filter _) (fun r hr => hz r (List.mem_filter.1 hr).1) (Nat.le_trans (List.length_filter_le _ _) hlen) fun T s ys H2 hT => kk T s ys H2 hT
 ·have he : sel R ps k = [] := by
   unfold sel
   rw [List.filter_eq_nil_iff]
   intro r hr hk
   obtain ⟨e, hm⟩ := hBM.2.2.2 r hr k (of_decide_eq_true hk)
   rw [Qbz hBM.2.1.is.nd hm] at hy; cases hy
  rw [he] at kk
  exact QlL kk
theorem Qnw {K : Sl → Heap → Prop} (h : IxP o A H x m g L R (cR R)) (hF : Fine R) (hn : R.Nodup) (hz : ∀ r ∈ R, vsizes r ≤ 1000000) (hlen : R.length ≤ 1000000)
 (k : ∀ T s ys H2, Told H H2 R T s ys → K s H2) : Qaf C (some (x, 0)) K H := by
 apply Qfm
 unfold QcI
 exact Qd rfl ⟨_, rfl, h.ld0 (QlM h.rm h.oh.le hF hn hz hlen k)⟩
theorem QkS (hFm : FmtC C) {K : Sl → Int → Heap → Prop} (h : IxP o A H x m g L R (cR R)) (hF : Fine R) (hn : R.Nodup) (hz : ∀ r ∈ R, vsizes r ≤ 1000000) (hlen : R.length ≤ 1000000)
 (hp : IL B s ps) (hv : VRow B t vs) (hB : B.le H) (hps : PsOk ps) (hf : fineV vs)
 (k1 : ps.length ≠ vs.length → K Sl.nil 1 H)
 (k0 : ps.length = vs.length → mayR vs = false → ∀ H2, H.le H2 → K Sl.nil 0 H2)
 (k2 : ps.length = vs.length → mayR vs = true → ∀ o2 A2 L2 D T s ys H2, Chg (fun _ => True) o H o2 D → A.le A2 → (∀ c, A2 c ≠ none → A c ≠ none ∨ H c = none) → IxP o2 A2 D x m g L2 R (cR R) → Told D H2 (sel R ps (keyB vs)) T s ys → K s 0 H2) : QK C (some (x, 0)) s t K H := by
 apply Qe7
 unfold Qcn
 have hsl := SlIs.len hp
 have htl := hv.len
 refine Qd rfl (ift.of (fun h1 => k1 fun e => ?_) fun h1 => ?_)
 ·rw [hsl, htl, e] at h1; simp at h1
 have hl : ps.length = vs.length := by rw [hsl, htl] at h1; simp at h1; omega
 refine Qjs hv hB hf (fun hm H5 h5 => Qd rfl ?_) fun hm H5 h5 => QE rfl (k0 hl hm H5 h5)
 refine Qmb hFm hp (hB.trans h5) hps fun ns H9 h9 hns hcap => ?_
 refine Qm5 hns (Heap.le.refl _) hcap (by simpa using hps.1) (fun y hy => ?_) fun H23 h23 => ?_
 ·obtain ⟨p, hp2, rfl⟩ := List.mem_map.1 hy
  have hr := hps.2 p hp2
  have := Lib.itoa_length_le p hr.1 hr.2
  omega
 rw [← Qne]
 have hle : H.le H23 := h5.trans (h9.trans h23)
 have hP := h.up hle
 refine ⟨_, rfl, hP.ld1 ?_⟩
 have main : ∀ o3 A2 L2 b D, Chg (fun _ => True) o H o3 D → A.le A2 → (∀ c, A2 c ≠ none → A c ≠ none ∨ H c = none) → IxP o3 A2 D x m g L2 R (cR R) → By o3 A2 D (nmOf ps) ps b R → nck (some (b, 0)) fun p63 => ldM D (p63.1, p63.2 + 1) fun x65 => lkM mv none x65 (keyB vs) (fun x67 is68 => Qai C x67 (fun r70 H71 => K r70 0 H71) D) D := fun o3 A2 L2 b D c1 c2 c3 c4 c5 =>
  Qns (K := fun s H2 => K s 0 H2) c5 c4.oh.le hF hn hz hlen fun T s ys H2 hT => k2 hl hm o3 A2 L2 D T s ys H2 c1 c2 c3 c4 hT
 have hfin : ∀ y, (∃ b, y = some (b, 0) ∧ By o A H23 (nmOf ps) ps b R) ∨ (y = none ∧ ∀ p ∈ L, p.1 ≠ nmOf ps) → jn (α := Option (Nat × Nat)) (fun x32 H33 => nck x32 fun p63 => ldM H33 (p63.1, p63.2 + 1) fun x65 => lkM mv none x65 (keyB vs) (fun x67 is68 => Qai C x67 (fun r70 H71 => K r70 0 H71) H33) H33)
  (fun J31 => ift (Option.isNone y) (QW C s (fun r36 H37 => mkM (fun b38 H39 => nw (Ql.c (⟨r36, (some b38)⟩ : Ql)) (fun b40 H41 => nck (some (x, 0)) fun p42 => ldM H41 (p42.1, p42.2 + 0) fun x44 =>
   rgM slv x44 (fun b46 H47 => lp (α := Unit) () H47 (fun x48 J49 H50 => nxB (enc := slv) b46 (fun b51 H52 => ift b51 (enM slv b46 (fun k54 x55 => Qab C (some (b40, 0)) k54 x55 (fun H57 => J49 () H57) H52) H52)
    (nck (some (x, 0)) fun p58 => ldM H52 (p58.1, p58.2 + 1) fun x60 => upS pv x60 (nmOf ps) (some (b40, 0)) (fun H62 => J31 (some (b40, 0)) H62) H52)) H50)) H41) H39) H37) H23) (J31 y H23)) := by
  rintro y (⟨b, rfl, hBy⟩ | ⟨rfl, hnm⟩)
  ·exact ⟨_, Qd rfl (main o A L b H23 (Chg.of_le hle) (Heap.le.refl _) (fun c hc => .inl hc) hP hBy), fun _ _ h => h⟩
  ·refine ⟨_, QE rfl ?_, fun _ _ h => h⟩
   refine QkZ hp (hB.trans hle) hps.1 fun r36 H37 h37 hr36 => ?_
   intro b38 n38 b40 n40
   have l38 := Heap.le_put n38 (g := .obj (.map #[] 0)) (m := true)
   have l40 := Heap.le_put n40 (g := .row (Ql.c (⟨r36, some b38⟩ : Ql))) (m := true)
   have hne : b40 ≠ b38 := fun e => by subst e; rw [Heap.put_same] at n40; cases n40
   have hat : ((H37.put b38 (.obj (.map #[] 0))).put b40 (.row (Ql.c (⟨r36, some b38⟩ : Ql)))) b40 = some (true, .row [slv r36, mv (some b38)]) := Heap.put_same ..
   have hm38 : MapS mv ((H37.put b38 (.obj (.map #[] 0))).put b40 (.row (Ql.c (⟨r36, some b38⟩ : Ql)))) b38 ([] : List (Str × Option Nat)) := (MapS.new (H := H37) (b := b38)).same (Heap.put_ne _ _ _ hne.symm)
   have hle41 : H37.le ((H37.put b38 (.obj (.map #[] 0))).put b40 (.row (Ql.c (⟨r36, some b38⟩ : Ql)))) := l38.trans l40
   have hn40 : H23 b40 = none := h37.none (l38.none n40)
   have hn38 : H23 b38 = none := h37.none n38
   generalize (H37.put b38 (.obj (.map #[] 0))).put b40 (.row (Ql.c (⟨r36, some b38⟩ : Ql))) = H41 at *
   have h2341 : H23.le H41 := h37.trans hle41
   have hNle : ((Heap.new H23 H41).del b38).le H41 := (Heap.del_le _ _).trans (Heap.new_le _ _)
   have hA2le : (A.or ((Heap.new H23 H41).del b38)).le H41 := Heap.or_le (hP.oh.le.trans h2341) hNle
   have hNn : ∀ c e, ((Heap.new H23 H41).del b38) c = some e → c ≠ b38 ∧ H23 c = none := fun c e hc => by
    have : c ≠ b38 := fun e' => by rw [e', Heap.del_same] at hc; cases hc
    rw [Heap.del_ne _ this] at hc
    exact ⟨this, (Heap.new_inv hc).1⟩
   have hAnone : ∀ c, (A c = none) → (∀ e, ((Heap.new H23 H41).del b38) c = some e → False) → (A.or ((Heap.new H23 H41).del b38)) c = none := fun c h1 h2 => Heap.or_none h1 (by
    cases hh : ((Heap.new H23 H41).del b38) c with
    | none => rfl
    | some e => exact (h2 e hh).elim)
   have hP41 := hP.up h2341
   have hPg : IxP o (A.or ((Heap.new H23 H41).del b38)) H41 x m g L R (cR R) := hP41.grow Heap.le_or hA2le fun c w hw => hAnone c (hP.oh.ap c w hw) fun e he => hP.oh.oh c w hw (hNn c e he).2
   have hno : ∀ w, o b38 = some w → False := fun w hw => hP.oh.oh b38 w hw hn38
   have hup : ∀ c w, o c = some w → (o.set b38 (.inn (nmOf ps))) c = some w := fun c w hw => by
    have : c ≠ b38 := fun e => hno w (by rw [← e]; exact hw)
    rw [Own_.set_ne this]; exact hw
   have hO2 : OH (o.set b38 (.inn (nmOf ps))) (A.or ((Heap.new H23 H41).del b38)) H41 := ⟨hA2le, fun c w hw => by
    by_cases hc : c = b38
    ·subst hc
     exact hAnone _ (hP.oh.le.none hn38) fun e he => (hNn _ e he).1 rfl
    ·rw [Own_.set_ne hc] at hw; exact hPg.oh.ap c w hw, fun c w hw => by
    by_cases hc : c = b38
    ·subst hc; obtain ⟨es, ck, hm⟩ := hm38; rw [hm.at_]; simp
    ·rw [Own_.set_ne hc] at hw; exact hPg.oh.oh c w hw⟩
   have hP2 := hPg.own hO2 hup
   have hrow : (A.or ((Heap.new H23 H41).del b38)) b40 = some (true, .row [slv r36, mv (some b38)]) := by
    unfold Heap.or
    rw [hP.oh.le.none hn40]
    show ((Heap.new H23 H41).del b38) b40 = _
    rw [Heap.del_ne _ hne]; exact Heap.new_some hat hn40
   have hIL : IL (A.or ((Heap.new H23 H41).del b38)) r36 ps := by
    refine SlIs.le (Heap.le.trans ?_ (Heap.le_or2 fun c e hc => hP.oh.le.none (hNn c e hc).2)) hr36 fun _ _ _ h => h
    intro c e hc
    obtain ⟨q1, q2⟩ := Heap.new_inv hc
    have : c ≠ b38 := fun e' => by rw [e', n38] at q2; cases q2
    rw [Heap.del_ne _ this]; exact Heap.new_some (hle41 _ _ q2) q1
   have hBy : By (o.set b38 (.inn (nmOf ps))) (A.or ((Heap.new H23 H41).del b38)) H41 (nmOf ps) ps b40 [] :=
    ⟨true, r36, b38, [], hrow, hIL, Own_.set_same, hm38, (fun p hp => by cases hp), fun r hr => by cases hr⟩
   have hc41 : Chg (fun _ => True) o H (o.set b38 (.inn (nmOf ps))) H41 := by
    refine ⟨fun c e hc _ => h2341 _ _ (hle _ _ hc), hup, fun c w hw => ?_, fun c hc => ?_⟩
    ·by_cases hcb : c = b38
     ·subst hcb; exact .inr ⟨hle.none hn38, trivial, hO2.oh _ _ Own_.set_same⟩
     ·rw [Own_.set_ne hcb] at hw; exact .inl hw
    ·cases he : H c with
     | none => exact absurd he hc
     | some e => rw [h2341 _ _ (hle _ _ he)]; simp
   have hAn2 : ∀ c, (A.or ((Heap.new H23 H41).del b38)) c ≠ none → A c ≠ none ∨ H c = none := fun c hc => (Heap.or_some hc).imp id fun h => by
    cases hh : ((Heap.new H23 H41).del b38) c with
    | none => exact absurd hh h
    | some e => exact hle.none (hNn c e hh).2
   have hA2 : A.le (A.or ((Heap.new H23 H41).del b38)) := Heap.le_or
   generalize A.or ((Heap.new H23 H41).del b38) = A2 at *
   generalize o.set b38 (.inn (nmOf ps)) = o2 at *
   refine ⟨_, rfl, hP2.ld0 ?_⟩
   refine QnP (t := 0) hP2 hBy hps hF hn hnm fun o3 D c3 hP3 hB3 => ?_
   refine ⟨_, rfl, hP3.ld1 ⟨g, L, rfl, hP3.mg, fun g2 L2 q1 q2 _ => ?_⟩⟩
   have hgne : ∀ c w, o3 c = some w → w ≠ .bys → c ≠ g := fun c w hw e e' => by subst e'; rw [hP3.og] at hw; injection hw with hw; exact e hw.symm
   have hB4 : By o3 A2 (D.put g g2) (nmOf ps) ps b40 R := hB3.keep fun c w hw hwn => ⟨hw, Heap.put_ne _ _ _ (hgne c w hw fun e => by subst e; cases hwn)⟩
   refine main o3 A2 L2 b40 _ ((hc41.trans (c3.imp fun _ _ => trivial)).trans (Chg.put hP3.og trivial)) hA2 hAn2 ⟨⟨fun c e hc => ?_, hP3.oh.ap, fun c w hw => ?_⟩, hP3.hx, hP3.om, hP3.og, hP3.rm.same (Heap.put_ne _ _ _ (hgne _ _ hP3.om (by intro h; cases h))), q1, fun p hp2 => ?_⟩ hB4
   ·have : c ≠ g := fun e' => by rw [e', hP3.oh.ap _ _ hP3.og] at hc; cases hc
    rw [Heap.put_ne _ _ _ this]; exact hP3.oh.le c e hc
   ·by_cases hcg : c = g
    ·rw [hcg, Heap.put_same]; simp
    ·rw [Heap.put_ne _ _ _ hcg]; exact hP3.oh.oh c w hw
   ·have hl2 := (QjZ q1.is.nd).1 hp2
    rw [q2] at hl2
    split at hl2
    ·rename_i he
     injection hl2 with hl2
     refine ⟨b40, ps, hl2.symm, he, hps, ?_⟩
     rw [he]; exact hB4
    ·obtain ⟨b', ps', r1, r2, r3, r4⟩ := hP3.bs p (Qbb hl2)
     exact ⟨b', ps', r1, r2, r3, r4.keep fun c w hw hwn => ⟨hw, Heap.put_ne _ _ _ (hgne c w hw fun e => by subst e; cases hwn)⟩⟩
 refine hP.mg.is.lk (fun y hy => ?_) fun hy => ?_
 ·obtain ⟨b, ps', r1, r2, r3, r4⟩ := hP.bs _ (Qbb hy)
  have := Qmc r2
  subst this
  exact hfin y (.inl ⟨b, r1, r4⟩)
 ·refine hfin none (.inr ⟨rfl, fun p hp2 e => ?_⟩)
  have := Qbz hP.mg.is.nd (k := nmOf ps) (x := p.2) (by rw [← e]; exact hp2)
  rw [this] at hy; cases hy
end
end
section
open Go Go.Proofs
/-- an index in memory -/
structure IX (o : Own_) (A H : Heap) (x : Nat) (R : List (List V)) : Prop where
 p : ∃ m g L, IxP o A H x m g L R (cR R)
 f : Fine R
 n : R.Nodup
 z : ∀ r ∈ R, vsizes r ≤ 1000000
 l : R.length ≤ 1000
/-- what an index's method changes -/
structure Mv (o : Own_) (A H : Heap) (o2 : Own_) (A2 H2 : Heap) : Prop where
 c : Chg (fun _ => True) o H o2 H2
 a : A.le A2
 n : ∀ c, A2 c ≠ none → A c ≠ none ∨ H c = none
/-- a part of memory that the index's methods keep -/
structure Bs (o : Own_) (B H : Heap) : Prop where
 le : B.le H
 ap : ∀ c w, o c = some w → B c = none
/-- two indexes apart -/
structure Dj (o : Own_) (A : Heap) (o' : Own_) (A' : Heap) : Prop where
 a : ∀ c w, o c = some w → o' c = none ∧ A' c = none
 b : ∀ c w, o' c = some w → A c = none
section
variable {C : Ctx} {o o2 o3 o' : Own_} {A A2 A3 A' B B2 H H2 H3 D : Heap} {x y : Nat} {R S : List (List V)} {r : List V} {t s : Sl} {ps : List Int} {vs : List V}
theorem Mv.of_le (h : H.le H2) : Mv o A H o A H2 := ⟨Chg.of_le h, Heap.le.refl _, fun c hc => .inl hc⟩
theorem Mv.trans (h : Mv o A H o2 A2 H2) (h' : Mv o2 A2 H2 o3 A3 H3) : Mv o A H o3 A3 H3 := ⟨h.c.trans h'.c, h.a.trans h'.a, fun c hc => by
 rcases h'.n c hc with h1 | h1
 ·exact h.n c h1
 ·refine .inr ?_
  cases he : H c with
  | none => rfl
  | some e => exact absurd h1 (h.c.li c (by rw [he]; simp))⟩
theorem Bs.mv (h : Bs o B H) (hm : Mv o A H o2 A2 H2) : Bs o2 B H2 := by
 refine ⟨fun c e hc => hm.c.kp c e (h.le c e hc) (fun w hw _ => by rw [h.ap c w hw] at hc; cases hc), fun c w hw => ?_⟩
 rcases hm.c.dn c w hw with h1 | ⟨h1, _⟩
 ·exact h.ap c w h1
 ·exact h.le.none h1
theorem Bs.up (h : Bs o B H) (hle : H.le H2) : Bs o B H2 := ⟨h.le.trans hle, h.ap⟩
theorem Bs.sub (h : Bs o B H) (hle : B2.le B) : Bs o B2 H := ⟨hle.trans h.le, fun c w hw => hle.none (h.ap c w hw)⟩
theorem IX.up (h : IX o A H x R) (hle : H.le H2) : IX o A H2 x R := by
 obtain ⟨⟨m, g, L, p⟩, q⟩ := h
 exact ⟨⟨m, g, L, p.up hle⟩, by assumption, by assumption, by assumption, by assumption⟩
theorem IX.oh (h : IX o A H x R) : OH o A H := by obtain ⟨⟨m, g, L, p⟩, _⟩ := h; exact p.oh
theorem IX.other (h : IX o' A' H y S) (hm : Mv o A H o2 A2 H2) (hd : Dj o A o' A') : IX o' A' H2 y S ∧ Dj o2 A2 o' A' := by
 have hO := h.oh
 obtain ⟨⟨m, g, L, p⟩, q1, q2, q3, q4⟩ := h
 have hk : ∀ c w, o' c = some w → H2 c = H c := fun c w hw => by
  cases he : H c with
  | none => exact absurd he (hO.oh c w hw)
  | some e => exact hm.c.kp c e he fun w' hw' _ => by rw [(hd.a c w' hw').1] at hw; cases hw
 refine ⟨⟨⟨m, g, L, p.keep (fun c e hc => hm.c.kp c e (hO.le c e hc) fun w hw _ => by rw [(hd.a c w hw).2] at hc; cases hc) hk⟩, q1, q2, q3, q4⟩, ⟨fun c w hw => ?_, fun c w hw => ?_⟩⟩
 ·rcases hm.c.dn c w hw with h1 | ⟨h1, _⟩
  ·exact hd.a c w h1
  ·refine ⟨?_, hO.le.none h1⟩
   cases he : o' c with
   | none => rfl
   | some w' => exact absurd h1 (hO.oh c w' he)
 ·cases he : A2 c with
  | none => rfl
  | some e =>
   rcases hm.n c (by rw [he]; simp) with h1 | h1
   ·exact absurd (hd.b c w hw) h1
   ·exact absurd h1 (hO.oh c w hw)
theorem Dj.symm (h : Dj o A o' A') : Dj o' A' o A := by
 refine ⟨fun c w hw => ⟨?_, h.b c w hw⟩, fun c w hw => (h.a c w hw).2⟩
 cases he : o c with
 | none => rfl
 | some w' => rw [(h.a c w' he).1] at hw; cases hw
/-- a row that may be asked -/
structure Ask (B : Heap) (t : Sl) (r : List V) : Prop where
 v : VRow B t r
 f : fineV r
 z : vsizes r ≤ 1000000
theorem IX.put {K : Bool → Int → Heap → Prop} (h : IX o A H x R) (hl : R.length < 1000) (hb : Bs o B H) (ha : Ask B t r)
 (k : ∀ b e o2 A2 H2 R2, Mv o A H o2 A2 H2 → IX o2 A2 H2 x R2 → (∀ r', r' ∈ R2 ↔ r' ∈ R ∨ (r' = r ∧ mayR r = true)) → (b = true ↔ mayR r = true ∧ r ∉ R) → (e = if mayR r then 0 else 4) → R2.length ≤ R.length + 1 → K b e H2) : Qr C (some (x, 0)) t K H := by
 obtain ⟨⟨m, g, L, p⟩, q1, q2, q3, q4⟩ := h
 refine QnE p q1 ha.v hb.le ha.f ha.z (fun hm H2 h2 => ?_) (fun hm hr H2 h2 => ?_) fun hm hr o2 A2 H2 c1 c2 c3 p2 => ?_
 ·exact k false 4 o A H2 R (Mv.of_le h2) ⟨⟨m, g, L, p.up h2⟩, q1, q2, q3, q4⟩ (fun r' => ⟨.inl, fun h => h.elim id fun h => by rw [h.2] at hm; cases hm⟩) ⟨fun h => (by cases h), fun h => by rw [h.1] at hm; cases hm⟩ (by rw [hm]; rfl) (by omega)
 ·exact k false 0 o A H2 R (Mv.of_le h2) ⟨⟨m, g, L, p.up h2⟩, q1, q2, q3, q4⟩ (fun r' => ⟨.inl, fun h => h.elim id fun h => by rw [h.1]; exact hr⟩) ⟨fun h => (by cases h), fun h => absurd hr h.2⟩ (by rw [hm]; rfl) (by omega)
 ·refine k true 0 o2 A2 H2 (R ++ [r]) ⟨c1, c2, c3⟩ ⟨⟨m, g, L, p2⟩, fun r' hr' => ?_, ?_, fun r' hr' => ?_, by simp; omega⟩ (fun r' => ?_) ⟨fun _ => ⟨hm, hr⟩, fun _ => rfl⟩ (by rw [hm]; rfl) (by simp)
  ·rcases List.mem_append.1 hr' with h | h
   ·exact q1 r' h
   ·rw [List.mem_singleton] at h; rw [h]; exact ⟨ha.f, hm⟩
  ·rw [List.nodup_append]
   exact ⟨q2, by simp, fun a ha' b hb' e => by rw [List.mem_singleton] at hb'; exact hr (by rw [← hb', ← e]; exact ha')⟩
  ·rcases List.mem_append.1 hr' with h | h
   ·exact q3 r' h
   ·rw [List.mem_singleton] at h; rw [h]; exact ha.z
  ·rw [List.mem_append, List.mem_singleton]
   exact ⟨fun h => h.imp id fun h => ⟨h, hm⟩, fun h => h.imp id fun h => h.1⟩
theorem IX.del {K : Bool → Int → Heap → Prop} (h : IX o A H x R) (hb : Bs o B H) (ha : Ask B t r)
 (k : ∀ b e o2 H2 R2, Mv o A H o2 A H2 → IX o2 A H2 x R2 → (∀ r', r' ∈ R2 ↔ r' ∈ R ∧ r' ≠ r) → (b = true ↔ r ∈ R) → (e = if mayR r then 0 else 4) → R2.length ≤ R.length → K b e H2) : QG C (some (x, 0)) t K H := by
 obtain ⟨⟨m, g, L, p⟩, q1, q2, q3, q4⟩ := h
 have hnr : mayR r = false → r ∉ R := fun hm hr => by rw [(q1 r hr).2] at hm; cases hm
 refine Qny p q1 ha.v hb.le ha.f (fun hm H2 h2 => ?_) (fun hm hr H2 h2 => ?_) (fun hm hr o2 H2 c1 p2 => ?_) hb.ap
 ·exact k false 4 o H2 R (Mv.of_le h2) ⟨⟨m, g, L, p.up h2⟩, q1, q2, q3, q4⟩ (fun r' => ⟨fun h => ⟨h, fun e => hnr hm (e ▸ h)⟩, fun h => h.1⟩) ⟨fun h => (by cases h), fun h => absurd h (hnr hm)⟩ (by rw [hm]; rfl) (Nat.le_refl _)
 ·exact k false 0 o H2 R (Mv.of_le h2) ⟨⟨m, g, L, p.up h2⟩, q1, q2, q3, q4⟩ (fun r' => ⟨fun h => ⟨h, fun e => hr (e ▸ h)⟩, fun h => h.1⟩) ⟨fun h => (by cases h), fun h => absurd h hr⟩ (by rw [hm]; rfl) (Nat.le_refl _)
 ·have hle : (Rm R r).length ≤ R.length := List.length_filter_le _ _
  exact k true 0 o2 H2 (Rm R r) ⟨c1, Heap.le.refl _, fun c hc => .inl hc⟩ ⟨⟨m, g, L, p2⟩, q1.filter, q2.filter _, fun r' hr' => q3 r' (List.mem_filter.1 hr').1, by omega⟩ (fun r' => Qjd q1 ha.f hm) ⟨fun _ => hr, fun _ => rfl⟩ (by rw [hm]; rfl) hle
theorem IX.has {K : Bool → Heap → Prop} (h : IX o A H x R) (hb : Bs o B H) (ha : Ask B t r) (k : ∀ b, (b = true ↔ r ∈ R) → ∀ H2, H.le H2 → K b H2) : QaP C (some (x, 0)) t K H := by
 obtain ⟨⟨m, g, L, p⟩, q1, q2, q3, q4⟩ := h
 exact Qnz p q1 ha.v hb.le ha.f k
theorem IX.len {K : Int → Heap → Prop} (h : IX o A H x R) (k : K R.length H) : QaQ C (some (x, 0)) K H := by
 obtain ⟨⟨m, g, L, p⟩, q1, q2, q3, q4⟩ := h
 exact QnA p q1 q2 k
theorem IX.all {K : Sl → Heap → Prop} (h : IX o A H x R) (k : ∀ T s ys H2, Told H H2 R T s ys → K s H2) : Qaf C (some (x, 0)) K H := by
 obtain ⟨⟨m, g, L, p⟩, q1, q2, q3, q4⟩ := h
 exact Qnw p q1 q2 q3 (by omega) k
theorem QiP {l : List V} : mayR l = true ↔ ∀ v ∈ l, mayV v = true := by unfold mayR; rw [List.all_eq_true]
theorem Qno (hF : Fine R) (hf : fineV vs) (hm : mayR vs = true) : r ∈ sel R ps (keyB vs) ↔ r ∈ R ∧ picks r ps = some vs := by
 unfold sel
 rw [List.mem_filter, decide_eq_true_iff]
 refine ⟨fun ⟨a, b⟩ => ⟨a, ?_⟩, fun ⟨a, b⟩ => ⟨a, ?_⟩⟩
 ·unfold keyAt at b
  cases hp : picks r ps with
  | none => rw [hp] at b; cases b
  | some q =>
   rw [hp] at b
   dsimp only at b
   split at b
   ·rename_i hq
    injection b with b
    obtain ⟨_, hmem⟩ := QfR hp
    have hfr := (hF r a).1
    rw [QiN (VBs.of fun v hv => hfr.1.mem (hmem v hv)) hf.1 hq hm (fun v hv => hfr.2.2 v (hmem v hv)) hf.2.2 b]
   ·cases b
 ·unfold keyAt; rw [b]; simp [hm]
theorem IX.look (hFm : FmtC C) {K : Sl → Int → Heap → Prop} (h : IX o A H x R) (hb : Bs o B H) (hp : IL B s ps) (ha : Ask B t vs) (hps : PsOk ps) (hl : ps.length = vs.length)
 (k : ∀ o2 A2 D T s ys R' H2, Mv o A H o2 A2 D → IX o2 A2 D x R → Told D H2 R' T s ys → (∀ r, r ∈ R' ↔ r ∈ R ∧ picks r ps = some vs) → K s 0 H2) : QK C (some (x, 0)) s t K H := by
 obtain ⟨⟨m, g, L, p⟩, q1, q2, q3, q4⟩ := h
 refine QkS hFm p q1 q2 q3 (by omega) hp ha.v hb.le hps ha.f (fun h => absurd hl h) (fun _ hm H2 h2 => ?_) fun _ hm o2 A2 L2 D T s ys H2 c1 c2 c3 p2 hT => ?_
 ·refine k o A H2 [] Sl.nil [] [] H2 (Mv.of_le h2) ⟨⟨m, g, L, p.up h2⟩, q1, q2, q3, q4⟩ Told.nil fun r => ⟨fun h => (by cases h), fun ⟨a, b⟩ => ?_⟩
  obtain ⟨_, hmem⟩ := QfR b
  have : mayR vs = true := QiP.2 fun v hv => QiP.1 (q1 r a).2 v (hmem v hv)
  rw [this] at hm; cases hm
 ·exact k o2 A2 D T s ys _ H2 ⟨c1, c2, c3⟩ ⟨⟨m, g, L2, p2⟩, q1, q2, q3, q4⟩ hT fun r => Qno q1 ha.f hm
theorem IX.new {K : Option (Nat × Nat) → Heap → Prop} (k : ∀ x o A H2, H.le H2 → (∀ c w, o c = some w → H c = none) → (∀ c, A c ≠ none → H c = none) → IX o A H2 x [] → K (some (x, 0)) H2) : Qdz C K H :=
 QnB fun x m g o A H2 h1 h2 h3 p => k x o A H2 h1 h2 h3 ⟨⟨m, g, [], p⟩, (fun r hr => by cases hr), .nil, (fun r hr => by cases hr), Nat.zero_le _⟩
/-- what was told, read in new memory -/
theorem Told.rows {T : List (List V)} {ys : List Sl} (h : Told D H2 R T s ys) : VRows (Heap.new D H2) s T := by
 have ho := h.og.own
 refine ⟨ys, ho.new.rdsl, by have := ho.len; simpa using this, h.len, fun i y l hy hl => ?_⟩
 refine (h.og.done i l y hl hy).row.le fun c e hc => ?_
 obtain ⟨a, b⟩ := Heap.new_inv hc
 exact Heap.new_some ((Heap.off_le _ _) _ _ b) a
theorem Qku {T U : List (List V)} (h1 : Rise T) (h2 : Rise U) (he : ∀ r, r ∈ T ↔ r ∈ U) : T = U := QkX (P := fun _ => True) Lin.row h1 h2 (fun _ _ => trivial) he
theorem Told.mem {T : List (List V)} {ys : List Sl} (h : Told D H2 R T s ys) (r : List V) : r ∈ T ↔ r ∈ R := h.perm.mem_iff
end
end
section
open Go Go.Proofs
section
variable {C : Ctx} {o o2 : Own_} {A A2 B H H2 D : Heap} {x : Nat} {R : List (List V)} {s : Sl}
theorem Qb1 {ls : List (List V)} {s t : Sl} {K : Bool → Heap → Prop} (hs : VRows A s ls) (ht : VRows B t ls) (hA : A.le H) (hB : B.le H) (hn : ls.length ≤ 140737488355328) (hb : ∀ l ∈ ls, VBs l ∧ l.length ≤ 140737488355328) (k : K true H) : QY C s t K H := by
 apply Qge
 unfold Qdn
 rw [hs.len, ht.len]
 refine Qd (by simp) ?_
 refine ⟨fun x D => D = H ∧ ∃ i : Nat, x = (i : Int) ∧ i ≤ ls.length, fun x _ => ls.length - x.toNat, ⟨rfl, 0, rfl, Nat.zero_le _⟩, ?_⟩
 rintro _ D ⟨rfl, i, rfl, hi⟩
 refine ift.of (fun h => ?_) (fun h => k)
 have hlt : i < ls.length := by have := of_decide_eq_true h; omega
 have hm := hb _ (List.getElem_mem hlt)
 refine ⟨_, Heap.le.refl _, hs.ld hA rfl hlt fun x hx => ht.ld hB rfl hlt fun y hy => Qf9 (hx.le hA) (hy.le hB) hm.2 hm.1 ⟨Heap.le.refl _, ?_⟩⟩
 rw [QbG.2 rfl]
 refine Qd rfl ?_
 rw [Qm (by omega) (by omega)]
 exact ⟨⟨rfl, i + 1, by omega, by omega⟩, by first | omega | (dsimp only; omega)⟩
def vN (n : Int) : V := .mk 2 n [] []
def vT (t : Str) : V := .mk 4 0 t []
theorem Qnm {H : Heap} {b : Nat} {cs : List Value} {m : Bool} (h : H b = some (m, .row cs)) : rds H (b, 0) cs := QdR h fun j v hj => by rw [Nat.zero_add]; exact hj
theorem Qb6 {H0 H H2 H3 : Heap} (h1 : H0.le H) (h2 : H2.le H3) : (Heap.new H H2).le (Heap.new H0 H3) := fun c e hc => by
 obtain ⟨a, b⟩ := Heap.new_inv hc
 exact Heap.new_some (h2 _ _ b) (h1.none a)
theorem Qlk (hO : OH o A D) (hle : D.le H) : Bs o (Heap.new D H) H := ⟨Heap.new_le _ _, fun c w hw => by
 cases hh : Heap.new D H c with
 | none => rfl
 | some e => exact absurd (Heap.new_inv hh).1 (hO.oh c w hw)⟩
theorem QmT {H : Heap} {b : Nat} {cs : List Value} (nb : H b = none) : rds (Heap.new H (H.put b (.row cs))) (b, 0) cs := Qnm (m := true) (Heap.new_some (Heap.put_same ..) nb)
/-- a row of values in a new block -/
theorem nwR {xs : List TV} {l : List V} {cs : List Value} {n : Nat} {K : Nat → Heap → Prop} (hc : cs = xs.flatMap Qa.c) (h : ∀ B, VsAre B l xs) (hn : n = l.length) (k : ∀ b H2, H.le H2 → VRow (Heap.new H H2) (Sl.of (some (b, 0)) n n) l → K b H2) : nw cs K H := by
 intro b nb
 have hle := Heap.le_put nb (g := .row cs) (m := true)
 refine k b _ hle ⟨xs, .inr ⟨rfl, (b, 0), rfl, ?_⟩, by rw [hn]; exact (h H).len, h _⟩
 rw [← hc]; exact QmT nb
def okRow (l : List V) : Prop := fineV l ∧ vsizes l ≤ 1000000
end
end
section
open Go Go.Proofs
theorem Rise.nodup {T : List (List V)} (h : Rise T) : T.Nodup := h.imp fun {a b} hab e => by
 rw [e, Lin.row.refl trivial] at hab; omega
theorem Rise.filter {T : List (List V)} {f : List V → Bool} (h : Rise T) : Rise (T.filter f) := List.Pairwise.filter _ h
section
variable {C : Ctx} {o o2 : Own_} {A A2 B H H2 D : Heap} {x : Nat} {R R' S T : List (List V)} {s t : Sl} {ys : List Sl} {ps : List Int} {vs : List V}
theorem QkC (hS : Rise S) (hR : ∀ r, r ∈ R ↔ r ∈ S) (hT : Told D H2 R T s ys) : T = S := by
 refine Qku hT.rise hS fun r => ?_
 rw [hT.mem, hR]
theorem IX.len_of (h : IX o A H x R) (hS : Rise S) (hR : ∀ r, r ∈ R ↔ r ∈ S) : R.length = S.length := ((List.perm_ext_iff_of_nodup h.n hS.nodup).2 hR).length_eq
theorem Told.le (h : Told D H2 R T s ys) : D.le H2 := h.og.own.le
end
end
section
open Go Go.Proofs
mutual
def pV : V → Nat
 | .mk _ _ s l => 1 + s.length / 64 + pVs l
def pVs : List V → Nat
 | [] => 0
 | v :: l => pV v + pVs l
end
theorem Qni (v : V) : pV v = 1 + v.s.length / 64 + pVs v.l := by obtain ⟨k, n, s, l⟩ := v; rfl
theorem Qj2 : ∀ {l : List V} {v : V}, v ∈ l → pV v ≤ pVs l
 | w :: l, v, h => by
  simp only [pVs]
  rcases List.mem_cons.1 h with rfl | h
  ·omega
  ·have := Qj2 h; omega
theorem Qj1 : ∀ l : List V, l.length ≤ pVs l
 | [] => Nat.le_refl _
 | v :: l => by
  have := Qj1 l
  have := Qni v
  simp only [pVs, List.length_cons]; omega
mutual
theorem Qnj : ∀ v : V, vsize v ≤ pV v
 | .mk k n s l => by
  have := Qi1 l
  simp only [vsize, pV]; omega
theorem Qi1 : ∀ l : List V, vsizes l ≤ pVs l
 | [] => Nat.le_refl _
 | v :: l => by
  have := Qnj v
  have := Qi1 l
  simp only [vsizes, pVs]; omega
end
mutual
theorem QmQ : ∀ v : V, vtot v ≤ 200 * pV v
 | .mk k n s l => by
  have := Qln l
  simp only [vtot, pV]; omega
theorem Qln : ∀ l : List V, vtots l ≤ 200 * pVs l
 | [] => Nat.zero_le _
 | v :: l => by
  have := QmQ v
  have := Qln l
  simp only [vtots, pVs]; omega
end
theorem Qmd {l : List V} (hB : VBs l) (h : pVs l ≤ 10000) : okRow l := by
 refine ⟨⟨hB, by have := Qj1 l; omega, fun v hv => ?_⟩, by have := Qi1 l; omega⟩
 have := QmQ v
 have := Qj2 hv
 omega
/-- the parts ahead of a place, as they are counted -/
def pre (l : List V) (i : Nat) : Nat := l.length + ((l.take i).map fun v => pVs v.l + v.s.length / 64).sum
theorem Qmj {l : List V} {i : Nat} (h : i < l.length) : pre l (i + 1) = pre l i + (pVs l[i].l + l[i].s.length / 64) := by
 unfold pre
 rw [List.take_add_one, List.getElem?_eq_getElem h, Option.toList_some, List.map_append, List.sum_append]
 simp; omega
theorem Qj4 : ∀ l : List V, (l.map fun v => pVs v.l + v.s.length / 64).sum + l.length = pVs l
 | [] => rfl
 | v :: l => by
  have := Qj4 l
  have := Qni v
  simp only [List.map_cons, List.sum_cons, List.length_cons, pVs]; omega
theorem QmS (l : List V) (i : Nat) : pre l i ≤ pVs l := by
 have h : ∀ (l : List Nat) (i : Nat), (l.take i).sum ≤ l.sum := fun l i => by
  have := congrArg List.sum (List.take_append_drop i l)
  rw [List.sum_append] at this; omega
 unfold pre
 rw [← Qj4 l, List.map_take]
 have := h (l.map fun v => pVs v.l + v.s.length / 64) i
 omega
section
variable {C : Ctx}
theorem QnG {a b c d : Int} (h : (decide (a < b) && decide (c < d)) = false) : b ≤ a ∨ d ≤ c := by
 rw [Bool.and_eq_false_iff] at h
 rcases h with h | h
 ·left; have := of_decide_eq_false h; omega
 ·right; have := of_decide_eq_false h; omega
theorem QnF {a b c d : Int} (h : (decide (a < b) && decide (c < d)) = true) : a < b ∧ c < d := by
 rw [Bool.and_eq_true] at h
 exact ⟨of_decide_eq_true h.1, of_decide_eq_true h.2⟩
theorem VRow.fld {A H : Heap} {t : Sl} {l : List V} (h : VRow A t l) (hle : A.le H) {i : Nat} {x : Int} {K : Nat × Nat → Prop} (hx : x = i) (hi : i < l.length) (k : ∀ p y, VIs A l[i] y → (∀ j v, (Qa.c y)[j]? = some v → rd H (p.1, p.2 + x.toNat * 4 + j) = some v) → K p) : ixa t x K := by
 have hl := h.len
 obtain ⟨xs, h1, h2, h3⟩ := h
 have hi2 : i < xs.length := by omega
 have hg := List.getElem?_eq_getElem hi2
 subst hx
 refine Qic (QaY hle h1) (by omega) (by omega) (fun e => ?_) fun p _ hp => k p xs[i] (h3.get i _ _ (List.getElem?_eq_getElem hi) hg) fun j v hj => ?_
 ·have := Qez Qa.c 4 TV.c_len xs i _ hg 0 _ rfl
  rw [e] at this; simp at this
 ·rw [Int.toNat_natCast, Nat.add_assoc]
  exact Qci hp _ _ (Qez Qa.c 4 TV.c_len xs i _ hg j v hj)
theorem Qme {A H : Heap} {t : Sl} {l : List V} {K : Int → Heap → Prop} (hv : VRow A t l) (hA : A.le H) (hb : pVs l ≤ 1000000000000) (k : ∀ n : Nat, (n < 9000 → n = pVs l) → n ≤ pVs l → K n H) : QO C t K H := by
 have main : ∀ v : V, ∀ (A H : Heap) (t : Sl) (K : Int → Heap → Prop), VRow A t v.l → A.le H → pVs v.l ≤ 1000000000000 → (∀ n : Nat, (n < 9000 → n = pVs v.l) → n ≤ pVs v.l → K n H) → QO C t K H := by
  refine fun v => V.rec_ (P := fun v => ∀ (A H : Heap) (t : Sl) (K : Int → Heap → Prop), VRow A t v.l → A.le H → pVs v.l ≤ 1000000000000 → (∀ n : Nat, (n < 9000 → n = pVs v.l) → n ≤ pVs v.l → K n H) → QO C t K H) (fun v ih => ?_) v
  intro A H t K hv hA hb k
  apply QhQ
  unfold QeW
  have hl := hv.len
  have hpl := Qj1 v.l
  rw [hl]
  refine ⟨fun x D => D = H ∧ ∃ i n : Nat, x.1 = (n : Int) ∧ x.2 = (i : Int) ∧ i ≤ v.l.length ∧ n ≤ pre v.l i ∧ (n < 9000 → n = pre v.l i), fun x _ => v.l.length - x.2.toNat, ⟨rfl, 0, v.l.length, rfl, rfl, Nat.zero_le _, by simp [pre], fun _ => by simp [pre]⟩, ?_⟩
  rintro ⟨_, _⟩ D ⟨hD, i, n, rfl, rfl, hi, hn1, hn2⟩
  have hD := hD.symm
  subst hD
  have hp := QmS v.l i
  refine ift.of (fun h => ?_) (fun h => ?_)
  ·have h0 := QnF h
   have hlt : i < v.l.length := by have := h0.1; dsimp only at this; omega
   have hn9 : n < 9000 := by have := h0.2; dsimp only at this; omega
   have hs := Qmj hlt
   have hp2 := QmS v.l (i + 1)
   have hmem := List.getElem_mem hlt
   have hm1 := Qj2 hmem
   have hm2 := Qni v.l[i]
   refine ⟨_, Heap.le.refl _, hv.fld hA rfl hlt fun p y hy hp => ⟨y.L, hp 3 _ rfl, ?_⟩⟩
   refine hv.fld hA rfl hlt fun p2 y2 hy2 hp2' => ⟨y2.S, hp2' 2 _ rfl, ?_⟩
   refine ih _ hmem A _ _ _ hy.row hA (by omega) fun m m1 m2 => ⟨Heap.le.refl _, ?_⟩
   rw [hy2.txt]
   have ediv : Int.tdiv ((v.l[i].s.length : Nat) : Int) 64 = ((v.l[i].s.length / 64 : Nat) : Int) := by
    rw [Int.tdiv_eq_ediv_of_nonneg (by omega)]; omega
   rw [ediv, Qm (x := (n : Int) + (m : Int)) (by omega) (by omega), Qm (x := ((v.l[i].s.length / 64 : Nat) : Int)) (by omega) (by omega), Qm (x := (n : Int) + (m : Int) + ((v.l[i].s.length / 64 : Nat) : Int)) (by omega) (by omega), Qm (by dsimp only; omega) (by dsimp only; omega)]
   refine ⟨⟨rfl, i + 1, n + m + v.l[i].s.length / 64, by dsimp only; omega, by dsimp only; omega, by omega, by omega, fun h5 => ?_⟩, by first | omega | (dsimp only; omega)⟩
   have := m1 (by omega)
   have := hn2 hn9
   omega
  ·have h1 := QnG h
   dsimp only at h1
   refine k n (fun h9 => ?_) (by omega)
   have hie : i = v.l.length := by omega
   have hpe : pre v.l i = pVs v.l := by
    rw [hie]; unfold pre; rw [List.take_length]; have := Qj4 v.l; omega
   rw [← hpe]; exact hn2 h9
 exact main (.mk 0 0 [] l) A H t K hv hA hb k
end
end
section
open Go Go.Proofs
section
variable {C : Ctx} {B N H D : Heap} {s : Sl} {ls : List (List V)}
/-- a list of rows put behind another, in new memory -/
theorem Qms {H0 : Heap} {s t : Sl} {xs : List Sl} {ms : List (List V)} {K : Sl → Heap → Prop} (h : OwnF H0 H 1 s (xs.map slv)) (ht : VRows N t ms) (hN : N.le H) (hb : s.len + ms.length ≤ 1000000000)
 (k : ∀ r H2 (ys : List Sl), OwnF H0 H2 1 r ((xs ++ ys).map slv) → ys.length = ms.length → (∀ (i : Nat) (x : Sl) (l : List V), ys[i]? = some x → ms[i]? = some l → VRow N x l) → K r H2) : apS [slv Sl.nil] 24 s t K H := by
 have htl := ht.len
 obtain ⟨ys, h1, h2, h3, h4⟩ := ht
 refine QjS (zc := [slv Sl.nil]) h (QaY hN h1) (by simp; omega) (fun u hu => ?_) (by omega) (by omega) fun r H2 q1 q2 => k r H2 ys (by rw [List.map_append]; exact q1) h3 h4
 obtain ⟨y, _, rfl⟩ := List.mem_map.1 hu
 rfl
theorem Bs.ext {o : Own_} {A D2 : Heap} (h : Bs o N D) (hO : OH o A D) (hle : D.le D2) : Bs o (Heap.or N (Heap.new D D2)) D2 :=
 ⟨Heap.or_le (h.le.trans hle) (Heap.new_le _ _), fun c w hw => Heap.or_none (h.ap c w hw) ((Qlk hO hle).ap c w hw)⟩
end
end
section
open Go Go.Proofs
/-- two indexes, and a part of memory that both keep -/
structure S2 (N D : Heap) (x y : Nat) (ox : Own_) (Ax : Heap) (oy : Own_) (Ay : Heap) (Rx Ry : List (List V)) : Prop where
 ix : IX ox Ax D x Rx
 iy : IX oy Ay D y Ry
 dj : Dj ox Ax oy Ay
 bx : Bs ox N D
 bz : Bs oy N D
section
variable {C : Ctx} {B N D D2 H Ax Ay A2 : Heap} {x y : Nat} {ox oy o2 : Own_} {Rx Ry R2 : List (List V)} {s : Sl} {ls : List (List V)}
end
end
section
open Go Go.Proofs
section
variable {C : Ctx} {o o2 : Own_} {A A2 B H H2 D : Heap} {x m : Nat} {R : List (List V)}
theorem Qk0 {l : List (Str × Sl)} {K : Option Nat → Heap → Prop} (h : MapS slv H m l) (k : ∀ b ob, H b = none → MapS slv (H.put b (.obj ob)) b l → K (some b) (H.put b (.obj ob))) : QH C (some m) K H := by
 intro w hw
 obtain ⟨es, ck, h1, h2, h3⟩ := h
 obtain ⟨_, g2⟩ := St.getO (P := Tryz.prog) hw h1
 have hc := AnyW.maps_Clone Tryz.laysMap m es ck w g2
 refine hc.mono ?_
 rintro e w' ⟨rfl, rfl⟩
 have hst : St C (w.alloc (.map es ck)) (H.put w.heap.size (.obj (.map es ck))) := hw.push (o := .map es ck) (g := .obj (.map es ck)) (m := true) ⟨rfl, fun _ _ _ h => by cases h⟩
 exact ⟨_, _, rfl, hst, some w.heap.size, rfl, k _ _ hw.fresh ⟨es, ck, ⟨Heap.put_same .., h2, h3⟩⟩⟩
/-- a copy goes its own way: its maps are its own, the rows' memory is shared -/
theorem IX.copy {K : Option (Nat × Nat) → Heap → Prop} (h : IX o A H x R) (k : ∀ y o2 A2 H2, H.le H2 → IX o2 A2 H2 y R → (∀ c w, o2 c = some w → H c = none) → (∀ c, A2 c ≠ none → A c ≠ none ∨ H c = none) → K (some (y, 0)) H2) : Qay C (some (x, 0)) K H := by
 obtain ⟨⟨m, g, L, p⟩, q1, q2, q3, q4⟩ := h
 apply Qe6
 unfold Qcm
 refine Qd rfl ⟨_, rfl, p.ld0 ?_⟩
 obtain ⟨l, hm, l2, l3⟩ := p.rm
 refine Qk0 hm fun b ob nb hb => ?_
 intro g2 ng y ny
 have l1 := Heap.le_put nb (g := .obj ob) (m := true)
 have l4 := Heap.le_put ng (g := .obj (.map #[] 0)) (m := true)
 have l5 := Heap.le_put ny (g := .row (Qc.c (⟨some b, some g2⟩ : Qc))) (m := true)
 have hgb : g2 ≠ b := fun e => by subst e; rw [Heap.put_same] at ng; cases ng
 have hyg : y ≠ g2 := fun e => by subst e; rw [Heap.put_same] at ny; cases ny
 have hyb : y ≠ b := fun e => by subst e; rw [Heap.put_ne _ _ _ hgb.symm, Heap.put_same] at ny; cases ny
 have hng : H g2 = none := l1.none ng
 have hny : H y = none := l1.none (l4.none ny)
 have hle := l1.trans (l4.trans l5)
 have hrow : (((H.put b (.obj ob)).put g2 (.obj (.map #[] 0))).put y (.row (Qc.c (⟨some b, some g2⟩ : Qc)))) y = some (true, .row [mv (some b), mv (some g2)]) := Heap.put_same ..
 have hb5 : MapS slv (((H.put b (.obj ob)).put g2 (.obj (.map #[] 0))).put y (.row (Qc.c (⟨some b, some g2⟩ : Qc)))) b l := hb.same (by rw [Heap.put_ne _ _ _ hyb.symm, Heap.put_ne _ _ _ hgb.symm])
 have hg5 : MapS pv (((H.put b (.obj ob)).put g2 (.obj (.map #[] 0))).put y (.row (Qc.c (⟨some b, some g2⟩ : Qc)))) g2 ([] : List (Str × Option (Nat × Nat))) := (MapS.new (H := H.put b (.obj ob)) (b := g2)).same (Heap.put_ne _ _ _ hyg.symm)
 generalize ((H.put b (.obj ob)).put g2 (.obj (.map #[] 0))).put y (.row (Qc.c (⟨some b, some g2⟩ : Qc))) = H5 at *
 have hN : ∀ c e, (fun c => if c = y then H5 y else none : Heap) c = some e → c = y ∧ H5 c = some e := fun c e hc => by
  dsimp only at hc
  split at hc
  ·rename_i e'; exact ⟨e', by rw [e']; exact hc⟩
  ·cases hc
 have hAle : (A.or (fun c => if c = y then H5 y else none)).le H5 := Heap.or_le (p.oh.le.trans hle) fun c e hc => (hN c e hc).2
 have hoc : ∀ c w, (fun c => if c = b then some Wh.rows else if c = g2 then some Wh.bys else none : Own_) c = some w → c = b ∨ c = g2 := fun c w hw => by
  dsimp only at hw
  split at hw
  ·exact .inl ‹_›
  ·split at hw
   ·exact .inr ‹_›
   ·cases hw
 refine k y (fun c => if c = b then some .rows else if c = g2 then some .bys else none) (A.or (fun c => if c = y then H5 y else none)) H5 hle ⟨⟨b, g2, [], ⟨⟨hAle, fun c w hw => ?_, fun c w hw => ?_⟩, ⟨true, ?_⟩, by rw [if_pos rfl], by rw [if_neg hgb, if_pos rfl], ⟨l, hb5, fun p' hp' => ?_, l3⟩, hg5, fun p' hp' => by cases hp'⟩⟩, q1, q2, q3, q4⟩ (fun c w hw => ?_) fun c hc => ?_
 ·rcases hoc c w hw with rfl | rfl
  ·refine Heap.or_none (p.oh.le.none nb) (by rw [if_neg hyb.symm])
  ·refine Heap.or_none (p.oh.le.none hng) (by rw [if_neg hyg.symm])
 ·rcases hoc c w hw with rfl | rfl
  ·obtain ⟨es, ck, hx⟩ := hb5; rw [hx.at_]; simp
  ·obtain ⟨es, ck, hx⟩ := hg5; rw [hx.at_]; simp
 ·unfold Heap.or
  rw [p.oh.le.none hny]
  show (if y = y then H5 y else none) = _
  rw [if_pos rfl]; exact hrow
 ·obtain ⟨r, a, b', c⟩ := l2 p' hp'
  exact ⟨r, a, b', c.le Heap.le_or⟩
 ·rcases hoc c w hw with rfl | rfl
  ·exact nb
  ·exact hng
 ·rcases Heap.or_some hc with h1 | h1
  ·exact .inl h1
  ·cases he : (fun c => if c = y then H5 y else none : Heap) c with
   | none => exact absurd he h1
   | some e => exact .inr (by rw [(hN c e he).1]; exact hny)
end
end
section
open Go Go.Proofs
section
variable {C : Ctx} {o : Own_} {A B H D : Heap} {x c : Nat} {R S : List (List V)} {s t : Sl} {ps : List Int} {vs : List V}
theorem IX.lookBad (hFm : FmtC C) {K : Sl → Int → Heap → Prop} (h : IX o A H x R) (hb : Bs o B H) (hp : IL B s ps) (ha : Ask B t vs) (hps : PsOk ps) (hl : ps.length ≠ vs.length) (k : K Sl.nil 1 H) : QK C (some (x, 0)) s t K H := by
 obtain ⟨⟨m, g, L, p⟩, q1, q2, q3, q4⟩ := h
 exact QkS hFm p q1 q2 q3 (by omega) hp ha.v hb.le hps ha.f (fun _ => k) (fun h => absurd h hl) fun h => absurd h hl
/-- a block that is nobody's is written -/
theorem IX.putN {g : GO} {mu : Bool} (h : IX o A H x R) (ho : o c = none) (hA : A c = none) : IX o A (H.put c g mu) x R := by
 have hO := h.oh
 obtain ⟨⟨m, g', L, p⟩, q⟩ := h
 refine ⟨⟨m, g', L, p.keep (fun d e hd => ?_) fun d w hw => ?_⟩, by assumption, by assumption, by assumption, by assumption⟩
 ·have : d ≠ c := fun e' => by rw [e', hA] at hd; cases hd
  rw [Heap.put_ne _ _ _ this]; exact hO.le d e hd
 ·have : d ≠ c := fun e' => by rw [e', ho] at hw; cases hw
  rw [Heap.put_ne _ _ _ this]
theorem VRow.nil : VRow H Sl.nil [] := ⟨[], .inl rfl, rfl, trivial⟩
theorem IL.nil : IL H Sl.nil [] := ⟨[], .inl rfl, rfl, rfl, Nat.zero_le _, fun i v y hv => by simp at hv⟩
def s1 : List (List V) := [[vN 1, vT [97]], [vN 1, vT [98]], [vN 2, vT [97]]]
def s2 : List (List V) := [[], [vN 1, vT [97]], [vN 1, vT [98]], [vN 2, vT [97]]]
def s3 : List (List V) := [[vN 1], [vN 1, vT [98]], [vN 2, vT [97]], [vN 3, vT [97]]]
theorem QmY {H0 H2 : Heap} {t : Sl} {l : List V} (h : VRow (Heap.new H0 H2) t l) (hl : okRow l) : Ask (Heap.new H0 H2) t l := ⟨h, hl.1, hl.2⟩
end
end
section
open Go Go.Proofs
section
variable {α : Type} {κ : α → α → Int}
theorem QiT : ∀ (n : Nat) (A B : List α), A.length + B.length ≤ n → ∀ x ∈ mrg κ A B, x ∈ A ∨ x ∈ B
 | n, [], B, _, x, hx => .inr (by simpa [mrg] using hx)
 | n, a :: A, [], _, x, hx => .inl (by simpa [mrg] using hx)
 | 0, a :: A, b :: B, h, x, hx => by simp at h
 | n + 1, a :: A, b :: B, h, x, hx => by
  simp only [List.length_cons] at h
  have i1 := QiT n A (b :: B) (by simp only [List.length_cons]; omega) x
  have i2 := QiT n A B (by omega) x
  have i3 := QiT n (a :: A) B (by simp only [List.length_cons]; omega) x
  rw [mrg] at hx
  split at hx
  ·rcases List.mem_cons.1 hx with rfl | hx
   ·exact .inl (List.mem_cons_self ..)
   ·exact (i1 hx).imp (List.mem_cons_of_mem _) id
  ·split at hx
   ·rcases List.mem_cons.1 hx with rfl | hx
    ·exact .inl (List.mem_cons_self ..)
    ·exact (i2 hx).imp (List.mem_cons_of_mem _) (List.mem_cons_of_mem _)
   ·rcases List.mem_cons.1 hx with rfl | hx
    ·exact .inr (List.mem_cons_self ..)
    ·exact (i3 hx).imp id (List.mem_cons_of_mem _)
theorem Qdf : ∀ (n : Nat) (L : List α), ∀ x ∈ msort κ n L, x ∈ L
 | 0, L, x, hx => by simp [msort] at hx
 | n + 1, L, x, hx => by
  rw [msort] at hx
  split at hx
  ·exact hx
  ·rcases QiT _ _ _ (Nat.le_refl _) x hx with h | h
   ·exact QgW (Qdf n _ x h)
   ·exact QgV (Qdf n _ x h)
end
section
variable {C : Ctx} {H : Heap}
theorem VRows.slice {A : Heap} {s : Sl} {ls : List (List V)} {lo hi : Nat} {a b : Int} {K : Sl → Prop} (h : VRows A s ls) (hc : s.len ≤ s.cap) (ha : a = (lo : Int)) (hb : b = (hi : Int)) (h1 : lo ≤ hi) (h2 : hi ≤ ls.length)
 (k : ∀ t : Sl, t.len ≤ t.cap → t.cap ≤ s.cap → VRows A t ((ls.drop lo).take (hi - lo)) → K t) : slL s a b (s.cap : Int) 1 K := by
 have hl := h.len
 obtain ⟨xs, r1, r2, r3, r4⟩ := h
 subst ha; subst hb
 refine ⟨by omega, by omega, by omega, by omega, _, rfl, k _ (by dsimp only; omega) (by dsimp only; omega) ⟨(xs.drop lo).take (hi - lo), ?_, ?_, ?_, fun i x l hx hl => ?_⟩⟩
 ·have := QkO r1 (lo := (lo : Int)) (hi := (hi : Int)) (mx := (s.cap : Int)) (z := 1) (by omega) (by omega) (by omega) (by simp; omega)
  have e1 : (lo : Int).toNat * 1 = lo := by omega
  have e2 : ((hi : Int) - (lo : Int)).toNat * 1 = hi - lo := by omega
  rw [e1, e2] at this
  rw [e1, List.map_take, List.map_drop]
  exact this
 ·dsimp only
  rw [List.length_take, List.length_drop]; omega
 ·rw [List.length_take, List.length_drop, List.length_take, List.length_drop]; omega
 ·rw [List.getElem?_take] at hx hl
  split at hx
  ·rename_i hlt
   rw [if_pos hlt] at hl
   rw [List.getElem?_drop] at hx hl
   exact r4 _ x l hx hl
  ·cases hx
/-- rows that are told again, in a list that grows -/
def Gl (M H B : Heap) (s : Sl) (ls : List (List V)) : Prop := ∃ ys : List Sl, OwnF H B 1 s (ys.map slv) ∧ ys.length = ls.length ∧ ∀ (i : Nat) (x : Sl) (l : List V), ys[i]? = some x → ls[i]? = some l → VRow M x l
theorem Gl.nil {M : Heap} : Gl M H H Sl.nil [] := ⟨[], OwnF.nil H 1, rfl, fun i x l hx => by simp at hx⟩
theorem Gl.le {M B : Heap} {s : Sl} {ls : List (List V)} (h : Gl M H B s ls) : H.le B := by obtain ⟨ys, h1, _⟩ := h; exact h1.le
theorem Gl.rowsN {M B N : Heap} {s : Sl} {ls : List (List V)} (h : Gl M H B s ls) (hM : M.le N) (hN : (Heap.new H B).le N) : VRows N s ls := by
 obtain ⟨ys, h1, h2, h3⟩ := h
 exact ⟨ys, QaY hN h1.new.rdsl, by have := h1.own.1; simp at this; omega, h2, fun i x l hx hl => (h3 i x l hx hl).le hM⟩
theorem Gl.add {M B : Heap} {s x : Sl} {ls : List (List V)} {l : List V} {K : Sl → Heap → Prop} (h : Gl M H B s ls) (hx : VRow M x l) (hn : ls.length ≤ 1000000) (k : ∀ r B2, Gl M H B2 r (ls ++ [l]) → K r B2) : apd [slv Sl.nil] 24 s [slv x] 1 K B := by
 obtain ⟨ys, h1, h2, h3⟩ := h
 have hsl : s.len = ys.length := by have := h1.own.1; simp at this; omega
 refine Qb4 (zc := [slv Sl.nil]) h1 rfl (by omega) (by omega) fun r B2 h4 hr => k r B2 ⟨ys ++ [x], ?_, by simp [h2], fun i y m hy hm => ?_⟩
 ·rw [List.map_append]; exact h4
 ·by_cases hi : i < ys.length
  ·rw [List.getElem?_append_left hi] at hy
   rw [List.getElem?_append_left (by omega)] at hm
   exact h3 i y m hy hm
  ·rw [List.getElem?_append_right (by omega)] at hy hm
   have hlt := (List.getElem?_eq_some_iff.1 hy).1
   simp only [List.length_singleton] at hlt
   have e1 : i - ys.length = 0 := by omega
   have e2 : i - ls.length = 0 := by omega
   rw [e1] at hy; rw [e2] at hm
   simp only [List.getElem?_cons_zero, Option.some.injEq] at hy hm
   subst hy; subst hm; exact hx
theorem QnM {n : Nat} (h : n ≤ 1000000) : w .i64 (Int.tdiv (n : Int) 2) = ((n / 2 : Nat) : Int) := by
 have e : Int.tdiv (n : Int) 2 = ((n / 2 : Nat) : Int) := by
  rw [Int.tdiv_eq_ediv_of_nonneg (by omega)]; omega
 rw [e, Qm (by omega) (by omega)]
theorem Qff : ∀ (n : Nat) {A H : Heap} {ls : List (List V)} {s : Sl} {K : Sl → Heap → Prop}, ls.length ≤ n → n ≤ 1000 → VRows A s ls → s.len ≤ s.cap → A.le H → (∀ l ∈ ls, VBs l ∧ l.length ≤ 140737488355328 ∧ vsizes l ≤ 1000000) →
 (∀ t H2, H.le H2 → VRows (Heap.new H H2) t (msort cmpR n ls) → K t H2) → QbM C s K H
 | n, A, H, ls, s, K, hl, hn, hv, hc, hle, hb, k => by
  apply Qiw
  unfold QfY
  have hlen := hv.len
  refine ift.of (fun h => ?_) (fun h => ?_)
  ·have h0 : ls = [] := List.length_eq_zero_iff.1 (by simp only [beq_iff_eq] at h; omega)
   subst h0
   have e : msort cmpR n [] = ([] : List (List V)) := List.length_eq_zero_iff.1 (by have := Qde (κ := cmpR) n []; simpa using this)
   refine k _ _ (Heap.le.refl _) ?_
   rw [e]
   exact ⟨[], .inl rfl, rfl, rfl, fun i x l hx => by simp at hx⟩
  have h0 : ls.length ≠ 0 := by simp only [beq_eq_false_iff_ne] at h; omega
  match n, hl, hn, k with
  | 0, hl, _, _ => exact absurd hl (by omega)
  | n + 1, hl, hn, k =>
  refine ift.of (fun h1 => ?_) (fun h1 => ?_)
  ·have h1 : ls.length = 1 := by simp only [beq_iff_eq] at h1; omega
   obtain ⟨l, rfl⟩ := List.length_eq_one_iff.1 h1
   refine hv.ld hle (i := 0) rfl (by simp) fun x hx => QkT hx hle (hb _ (List.mem_cons_self ..)).2.2 fun t2 H2 hm => ?_
   intro b12 n12
   have hle2 := Heap.le_put n12 (g := .row [slv t2]) (m := true)
   refine k _ _ (hm.le.trans hle2) ?_
   have e : msort cmpR (n + 1) [l] = [l] := by rw [msort, if_pos (by simp)]
   rw [e]
   refine ⟨[t2], .inr ⟨rfl, _, rfl, Qlz (Qb6 hm.le (Heap.le.refl _)) (QmT n12)⟩, rfl, rfl, fun i x' l' hx' hl' => ?_⟩
   have hi : i = 0 := by have := (List.getElem?_eq_some_iff.1 hx').1; simpa using this
   subst hi
   simp only [List.getElem?_cons_zero, Option.some.injEq] at hx' hl'
   subst hx'; subst hl'
   exact hm.row.le (Qb6 (Heap.le.refl _) hle2)
  have h1 : ¬ ls.length ≤ 1 := by simp only [beq_eq_false_iff_ne] at h1; omega
  have hms : msort cmpR (n + 1) ls = mrg cmpR (msort cmpR n (ls.take (ls.length / 2))) (msort cmpR n (ls.drop (ls.length / 2))) := by rw [msort, if_neg h1]
  rw [hms] at k
  rw [hlen, QnM (by omega)]
  refine ⟨H, Heap.le.refl _, ?_⟩
  refine hv.slice hc (lo := 0) (hi := ls.length / 2) rfl rfl (Nat.zero_le _) (by omega) fun t16 c16 _ v16 => ?_
  refine hv.slice hc (lo := ls.length / 2) (hi := ls.length) rfl rfl (by omega) (by omega) fun t22 c22 _ v22 => ?_
  rw [List.drop_zero, Nat.sub_zero] at v16
  have e22 : (ls.drop (ls.length / 2)).take (ls.length - ls.length / 2) = ls.drop (ls.length / 2) := List.take_of_length_le (by rw [List.length_drop]; omega)
  rw [e22] at v22
  refine Qff n (by rw [List.length_take]; omega) (by omega) v16 c16 hle (fun l hl => hb l (QgW hl)) fun ta Ha hHa va => ⟨hHa, ?_⟩
  refine Qff n (by rw [List.length_drop]; omega) (by omega) v22 c22 (hle.trans hHa) (fun l hl => hb l (QgV hl)) fun tb Hb hHb vb => ⟨hHa.trans hHb, ?_⟩
  have va' := va.le (Qb6 (Heap.le.refl H) hHb)
  have vb' := vb.le (Qb6 hHa (Heap.le.refl Hb))
  have ma : ∀ l ∈ msort cmpR n (ls.take (ls.length / 2)), VBs l ∧ l.length ≤ 140737488355328 ∧ vsizes l ≤ 1000000 := fun l hl => hb l (QgW (Qdf n _ l hl))
  have mb : ∀ l ∈ msort cmpR n (ls.drop (ls.length / 2)), VBs l ∧ l.length ≤ 140737488355328 ∧ vsizes l ≤ 1000000 := fun l hl => hb l (QgV (Qdf n _ l hl))
  have la := Qde (κ := cmpR) n (ls.take (ls.length / 2))
  have lb := Qde (κ := cmpR) n (ls.drop (ls.length / 2))
  rw [List.length_take] at la
  rw [List.length_drop] at lb
  generalize msort cmpR n (ls.take (ls.length / 2)) = a at *
  generalize msort cmpR n (ls.drop (ls.length / 2)) = b at *
  rw [va'.len, vb'.len]
  refine ⟨fun x D => ∃ (i q : Nat) (o : Sl) (P : List (List V)), x = (o, (i : Int), (q : Int)) ∧ i ≤ a.length ∧ q ≤ b.length ∧ Gl (Heap.new H Hb) Hb D o P ∧ P.length ≤ i + q ∧ P ++ mrg cmpR (a.drop i) (b.drop q) = mrg cmpR a b, fun x _ => (a.length - x.2.1.toNat) + (b.length - x.2.2.toNat),
   ⟨0, 0, Sl.nil, [], rfl, Nat.zero_le _, Nat.zero_le _, Gl.nil, Nat.zero_le _, rfl⟩, ?_⟩
  rintro _ D ⟨i, q, o, P, rfl, hi, hq, hg, hP, hmr⟩
  have hMD := (Heap.new_le H Hb).trans hg.le
  refine ift.of (fun h2 => ?_) (fun h2 => ?_)
  ·simp only [Bool.or_eq_true, decide_eq_true_eq] at h2
   refine ⟨fun c E => E = D ∧ ((c < 0 ∧ ∃ h : i < a.length, mrg cmpR (a.drop i) (b.drop q) = a[i] :: mrg cmpR (a.drop (i + 1)) (b.drop q)) ∨
    (c = 0 ∧ ∃ h : i < a.length, q < b.length ∧ mrg cmpR (a.drop i) (b.drop q) = a[i] :: mrg cmpR (a.drop (i + 1)) (b.drop (q + 1))) ∨
    (c > 0 ∧ ∃ h : q < b.length, mrg cmpR (a.drop i) (b.drop q) = b[q] :: mrg cmpR (a.drop i) (b.drop (q + 1)))), ?_, ?_⟩
   ·refine ift.of (fun h3 => ⟨rfl, .inr (.inr ⟨by decide, ?_⟩)⟩) (fun h3 => ?_)
    ·have hia : i = a.length := by simp only [beq_iff_eq] at h3; omega
     have hqb : q < b.length := by omega
     refine ⟨hqb, ?_⟩
     rw [hia, List.drop_length, List.drop_eq_getElem_cons hqb]
     simp only [mrg]
    have hia : i < a.length := by simp only [beq_eq_false_iff_ne] at h3; omega
    refine ift.of (fun h4 => ?_) (fun h4 => ⟨rfl, .inl ⟨by decide, hia, ?_⟩⟩)
    ·have hqb : q < b.length := by have := of_decide_eq_true h4; dsimp only at this; omega
     refine ⟨D, Heap.le.refl _, ?_⟩
     have m1 := ma _ (List.getElem_mem hia)
     have m2 := mb _ (List.getElem_mem hqb)
     refine va'.ld hMD rfl hia fun x hx => vb'.ld hMD rfl hqb fun y hy => QgR (hx.le hMD) (hy.le hMD) m1.2.1 m2.2.1 m1.1 m2.1 (fun v hv => by have := Qby hv; omega) (fun v hv => by have := Qby hv; omega) ⟨Heap.le.refl _, rfl, ?_⟩
     have em : mrg cmpR (a.drop i) (b.drop q) = if cmpR a[i] b[q] < 0 then a[i] :: mrg cmpR (a.drop (i + 1)) (b.drop q) else if cmpR a[i] b[q] = 0 then a[i] :: mrg cmpR (a.drop (i + 1)) (b.drop (q + 1)) else b[q] :: mrg cmpR (a.drop i) (b.drop (q + 1)) := by
      rw [List.drop_eq_getElem_cons hia, List.drop_eq_getElem_cons hqb, mrg]
     by_cases c1 : cmpR a[i] b[q] < 0
     ·rw [if_pos c1] at em
      exact .inl ⟨c1, hia, em⟩
     ·rw [if_neg c1] at em
      by_cases c2 : cmpR a[i] b[q] = 0
      ·rw [if_pos c2] at em
       exact .inr (.inl ⟨c2, hia, hqb, em⟩)
      ·rw [if_neg c2] at em
       exact .inr (.inr ⟨by omega, hqb, em⟩)
    ·have hqb : q = b.length := by have := of_decide_eq_false h4; dsimp only at this; omega
     rw [hqb, List.drop_length, Qlh, Qlh, List.drop_eq_getElem_cons hia]
   rintro c _ ⟨rfl, hcase⟩
   refine ⟨fun x E => ∃ (o2 : Sl) (i2 : Nat) (l : List V), x = (o2, (i2 : Int)) ∧ Gl (Heap.new H Hb) Hb E o2 (P ++ [l]) ∧ i2 ≤ a.length ∧ ((c < 0 ∧ i2 = i + 1 ∧ mrg cmpR (a.drop i) (b.drop q) = l :: mrg cmpR (a.drop i2) (b.drop q)) ∨
    (0 ≤ c ∧ q < b.length ∧ i ≤ i2 ∧ i2 ≤ i + 1 ∧ mrg cmpR (a.drop i) (b.drop q) = l :: mrg cmpR (a.drop i2) (b.drop (q + 1)))), ?_, ?_⟩
   ·refine ift.of (fun h3 => ?_) (fun h3 => ?_)
    ·have h3 := of_decide_eq_true h3
     have hia : i < a.length := by rcases hcase with ⟨_, h, _⟩ | ⟨_, h, _⟩ | ⟨h, _⟩ <;> first | exact h | omega
     refine va'.ld hMD rfl hia fun x hx => hg.add hx (by omega) fun r B2 hB2 => ?_
     rw [Qm (by dsimp only; omega) (by dsimp only; omega)]
     refine ⟨r, i + 1, a[i], rfl, hB2, hia, ?_⟩
     rcases hcase with ⟨h, _, e⟩ | ⟨h, _, h5, e⟩ | ⟨h, _⟩
     ·exact .inl ⟨h, rfl, e⟩
     ·exact .inr ⟨by omega, h5, by omega, by omega, e⟩
     ·omega
    ·have h3 := of_decide_eq_false h3
     obtain ⟨hqb, e⟩ : ∃ h : q < b.length, mrg cmpR (a.drop i) (b.drop q) = b[q] :: mrg cmpR (a.drop i) (b.drop (q + 1)) := by
      rcases hcase with ⟨h, _⟩ | ⟨h, _⟩ | ⟨_, h⟩
      ·omega
      ·omega
      ·exact h
     refine vb'.ld hMD rfl hqb fun x hx => hg.add hx (by omega) fun r B2 hB2 => ?_
     exact ⟨r, i, b[q], rfl, hB2, hi, .inr ⟨by omega, hqb, by omega, by omega, e⟩⟩
   rintro _ E ⟨o2, i2, l, rfl, hg2, hi2, hc2⟩
   refine ift.of (fun h3 => ?_) (fun h3 => ?_)
   ·have h3 := of_decide_eq_true h3
    rcases hc2 with ⟨h, _⟩ | ⟨_, hqb, hii, hij, e⟩
    ·omega
    rw [Qm (by dsimp only; omega) (by dsimp only; omega)]
    refine ⟨⟨i2, q + 1, o2, P ++ [l], rfl, hi2, by omega, hg2, by rw [List.length_append, List.length_singleton]; omega, ?_⟩, by first | omega | (dsimp only; omega)⟩
    rw [List.append_assoc, ← hmr, e]; rfl
   ·have h3 := of_decide_eq_false h3
    rcases hc2 with ⟨h, rfl, e⟩ | ⟨h, _⟩
    ·refine ⟨⟨i + 1, q, o2, P ++ [l], rfl, hi2, hq, hg2, by rw [List.length_append, List.length_singleton]; omega, ?_⟩, by first | omega | (dsimp only; omega)⟩
     rw [List.append_assoc, ← hmr, e]; rfl
    ·omega
  ·simp only [Bool.or_eq_false_iff, decide_eq_false_iff_not] at h2
   have hia : i = a.length := by omega
   have hqb : q = b.length := by omega
   rw [hia, hqb, List.drop_length, List.drop_length] at hmr
   simp only [mrg, List.append_nil] at hmr
   rw [← hmr] at k
   exact k _ _ ((hHa.trans hHb).trans hg.le) (hg.rowsN (Qb6 (Heap.le.refl H) hg.le) (Qb6 (hHa.trans hHb) (Heap.le.refl _)))
end
end
section
open Go Go.Proofs
section
variable {C : Ctx} {B N H D : Heap} {s : Sl}
/-- does a row fit at a place? -/
def fitB (p : Int) (v : V) (r : List V) : Bool := match pick r p with
 | some w => mayV v && sameV w v
 | none => false
theorem Ql4 {p : Int} {v : V} {r : List V} (hm : mayR r = true) : fitB p v r = true ↔ pick r p = some v := by
 unfold fitB
 cases h : pick r p with
 | none => simp
 | some w =>
  simp only [Bool.and_eq_true, QlG, Option.some.injEq]
  refine ⟨fun h => h.2, fun e => ⟨?_, e⟩⟩
  subst e
  unfold pick at h
  split at h
  ·cases h
  ·exact QiP.1 hm w (List.mem_of_getElem? h)
end
end
section
open Go Go.Proofs
theorem Qnv {α : Type} (L : List α) : L.zipIdx.Pairwise fun a b => a.2 < b.2 := by
 rw [List.pairwise_iff_getElem]
 intro i j hi hj h
 simp only [List.getElem_zipIdx]; omega
theorem QmA {L : List (List V)} {n : Nat} (hm : ∀ r ∈ L, mayR r = true) (hn : L.length ≤ n) : Rise (msort cmpR n L) ∧ ∀ r, r ∈ msort cmpR n L ↔ r ∈ L := by
 have hL : Lin (fun a b : List V × Nat => cmpR a.1 b.1) fun _ => True := Lin.row.comp fun e : List V × Nat => e.1
 have h1 := Qhn (ι := fun a : List V × Nat => a.2) hL n L.zipIdx (by rw [List.length_zipIdx]; exact hn) (fun _ _ => trivial) (Qnv L)
 have h2 : (msort (fun a b : List V × Nat => cmpR a.1 b.1) n L.zipIdx).map (fun e => e.1) = msort cmpR n L := by
  rw [Qhm (κ' := cmpR) (f := fun e : List V × Nat => e.1) (fun _ _ => rfl), List.zipIdx_map_fst]
 constructor
 ·unfold Rise
  rw [← h2, List.pairwise_map]; exact h1.asc
 ·intro r
  refine ⟨fun h => Qdf n L r h, fun h => ?_⟩
  have : r ∈ L.zipIdx.map (fun e => e.1) := by rw [List.zipIdx_map_fst]; exact h
  obtain ⟨e, he, rfl⟩ := List.mem_map.1 this
  obtain ⟨y, hy, hc⟩ := h1.all e he
  rw [← h2]
  refine List.mem_map.2 ⟨y, hy, ?_⟩
  have hyl : y.1 ∈ L := Qdf n L _ (by rw [← h2]; exact List.mem_map.2 ⟨y, hy, rfl⟩)
  exact (Qjo (hm _ hyl) (hm _ h)).1 hc
/-- the document's index in memory -/
structure DY (N H : Heap) (y : Nat) (sL : Sl) (S : List (List V)) : Prop where
 yl : H y = some (true, .row [slv sL])
 vs : VRows N sL S
 nle : N.le H
 yn : N y = none
 fb : ∀ l ∈ S, okRow l
 ln : S.length ≤ 900
section
variable {C : Ctx} {B N H : Heap} {y : Nat} {sL t : Sl} {S : List (List V)} {r : List V}
theorem DY.ld (h : DY N H y sL S) {K : Sl → Prop} (k : K sL) : nck (some (y, 0)) fun p => ldL H (p.1, p.2 + 0) K := ⟨_, rfl, sL, by rw [Q7 h.yl]; rfl, k⟩
theorem DY.up {H2 : Heap} (h : DY N H y sL S) (hle : H.le H2) : DY N H2 y sL S := ⟨hle _ _ h.yl, h.vs, h.nle.trans hle, h.yn, h.fb, h.ln⟩
theorem DY.ll (h : DY N H y sL S) : ∀ l ∈ S, VBs l ∧ l.length ≤ 140737488355328 := fun l hl => ⟨(h.fb l hl).1.1, by have := (h.fb l hl).1.2.1; omega⟩
theorem QjJ {K : Bool → Heap → Prop} (h : DY N H y sL S) (ht : VRow B t r) (hB : B.le H) (k : ∀ b, (b = true ↔ r ∈ S) → K b H) : QaS C (some (y, 0)) t K H := by
 apply Qfv
 unfold QcP
 have hln := h.ln
 refine ⟨fun x E => E = H ∧ ∃ i : Nat, x = (i : Int) ∧ i ≤ S.length ∧ r ∉ S.take i, fun x _ => S.length - x.toNat, ⟨rfl, 0, rfl, Nat.zero_le _, by simp⟩, ?_⟩
 rintro _ E ⟨hE, i, rfl, hi, hr⟩
 have hE := hE.symm
 subst hE
 refine h.ld ?_
 rw [h.vs.len]
 refine ift.of (fun hlt => ?_) fun hlt => ?_
 ·have hil : i < S.length := by have := of_decide_eq_true hlt; omega
  have hm := h.ll _ (List.getElem_mem hil)
  refine h.ld (h.vs.ld h.nle rfl hil fun q hq => ?_)
  refine Qf9 (hq.le h.nle) (ht.le hB) hm.2 hm.1 ?_
  refine ift.of (fun hs => ?_) fun hs => ?_
  ·have := QbG.1 hs
   exact k true ⟨fun _ => this ▸ List.getElem_mem hil, fun _ => rfl⟩
  ·rw [Qm (by omega) (by omega)]
   refine ⟨⟨rfl, i + 1, by omega, by omega, ?_⟩, by first | omega | (dsimp only; omega)⟩
   rw [List.take_add_one, List.getElem?_eq_getElem hil, Option.toList_some, List.mem_append, List.mem_singleton]
   rintro (h1 | h1)
   ·exact hr h1
   ·rw [QbG.2 h1.symm] at hs; cases hs
 ·have hie : i = S.length := by have := of_decide_eq_false hlt; omega
  subst hie
  rw [List.take_length] at hr
  exact k false ⟨fun h => (by cases h), fun h => absurd h hr⟩
theorem QlC {K : Bool → Int → Heap → Prop} (h : DY N H y sL S) (ht : VRow B t r) (hB : B.le H) (hok : okRow r)
 (k0 : mayR r = false → K false 4 H) (k1 : mayR r = true → r ∈ S → K false 0 H)
 (k2 : mayR r = true → r ∉ S → ∀ H' sL2, H.le H' → VRows (Heap.new H H') sL2 (msort cmpR (S.length + 1) (S ++ [r])) → K true 0 (H'.put y (.row [slv sL2]))) : QaT C (some (y, 0)) t K H := by
 apply Qfw
 unfold QcQ
 have hln := h.ln
 refine Qke (ht.le hB) (by have := hok.1.2.1; omega) hok.1.1 (fun v hv => by have := Qby hv; have := hok.2; omega) ?_
 refine ift.of (fun hm => k0 (by simpa using hm)) fun hm => ?_
 have hm : mayR r = true := by simpa using hm
 refine QjJ h ht hB fun b hb => ift.of (fun h1 => k1 hm (hb.1 h1)) fun h1 => ?_
 have hr : r ∉ S := fun h2 => by rw [hb.2 h2] at h1; cases h1
 intro b7 n7
 have l7 := Heap.le_put n7 (g := .row []) (m := true)
 refine (h.up l7).ld ?_
 refine Qms (H0 := H) (xs := []) ⟨l7, ⟨by simp, rfl, Nat.le_refl _, .inr ⟨b7, [], rfl, Heap.put_same .., by simp⟩⟩, fun q hq => (by simp only [Option.some.injEq] at hq; subst hq; exact n7)⟩ h.vs (h.nle.trans l7) (by dsimp only; omega) fun r13 H14 ys q1 q2 q3 => ?_
 refine QkT ht (hB.trans q1.le) hok.2 fun r15 H16 hM => ?_
 have hO16 : Own H16 1 r13 (([] ++ ys).map slv) := q1.own.le hM.le
 have hl13 : r13.len = ys.length := by have := q1.len; simpa using this
 refine Qb4 (zc := [slv Sl.nil]) hO16.off rfl (by omega) (by omega) fun r17 H18 p1 p2 => ?_
 -- what is sorted
 have hf13 := q1.fresh
 have hN : N.le (H16.off r13) := fun c e hc => Heap.off_some (hM.le _ _ (q1.le _ _ (h.nle _ _ hc))) fun p hp e' => by
  have := hf13 p hp
  rw [e', h.nle _ _ hc] at this; cases this
 have h18 : H.le H18 := Heap.le.trans (fun c e hc => Heap.off_some (hM.le _ _ (q1.le _ _ hc)) fun p hp e' => by
  have := hf13 p hp
  rw [e', hc] at this; cases this) p1.le
 have hM18 : (Heap.new H14 H16).le H18 := Heap.le.trans (fun c e hc => by
  obtain ⟨a, b⟩ := Heap.new_inv hc
  exact Heap.off_some b fun p hp e' => by
   obtain ⟨g, hg⟩ := q1.own.mine hp
   rw [e', a] at hg; cases hg) p1.le
 have hrows : VRows H18 r17 (S ++ [r]) := by
  refine ⟨[] ++ ys ++ [r15], ?_, ?_, by simp [q2], fun i z l hz hl => ?_⟩
  ·have := p1.own.rdsl
   rw [List.map_append]
   exact this
  ·rw [p2, hl13]; simp
  ·rw [List.nil_append] at hz
   by_cases hi : i < ys.length
   ·rw [List.getElem?_append_left hi] at hz
    rw [List.getElem?_append_left (by omega)] at hl
    exact (q3 i z l hz hl).le (hN.trans p1.le)
   ·rw [List.getElem?_append_right (by omega)] at hz hl
    have hlt := (List.getElem?_eq_some_iff.1 hz).1
    simp only [List.length_singleton] at hlt
    have e1 : i - ys.length = 0 := by omega
    have e2 : i - S.length = 0 := by omega
    rw [e1] at hz; rw [e2] at hl
    simp only [List.getElem?_cons_zero, Option.some.injEq] at hz hl
    subst hz; subst hl
    exact hM.row.le hM18
 refine Qff (S.length + 1) (by simp) (by omega) hrows p1.own.2.2.1 (Heap.le.refl _) (fun l hl => ?_) fun r19 H20 h20 hv20 => ?_
 ·rcases List.mem_append.1 hl with hl | hl
  ·have := h.fb l hl
   exact ⟨this.1.1, by have := this.1.2.1; omega, this.2⟩
  ·rw [List.mem_singleton] at hl; subst hl
   exact ⟨hok.1.1, by have := hok.1.2.1; omega, hok.2⟩
 ·refine ⟨_, rfl, _, h20 _ _ (h18 _ _ h.yl), by simp, ?_⟩
  exact k2 hm hr H20 r19 (h18.trans h20) (hv20.le (Qb6 h18 (Heap.le.refl _)))
theorem QlB {K : Bool → Int → Heap → Prop} (h : DY N H y sL S) (ht : VRow B t r) (hB : B.le H) (hok : okRow r) (hy : B y = none)
 (k0 : mayR r = false → K false 4 H)
 (k2 : mayR r = true → ∀ H' sL2, H.le H' → VRows (Heap.or N (Heap.new H H')) sL2 (S.filter fun q => !sameVs q r) → K (decide ((S.filter fun q => !sameVs q r).length < S.length)) 0 (H'.put y (.row [slv sL2]))) : QaR C (some (y, 0)) t K H := by
 apply Qfu
 unfold QcO
 have hln := h.ln
 refine Qke (ht.le hB) (by have := hok.1.2.1; omega) hok.1.1 (fun v hv => by have := Qby hv; have := hok.2; omega) ?_
 refine ift.of (fun hm => k0 (by simpa using hm)) fun hm => ?_
 have hm : mayR r = true := by simpa using hm
 refine ⟨fun x E => ∃ i : Nat, x.2 = (i : Int) ∧ i ≤ S.length ∧ Gl N H E x.1 ((S.take i).filter fun q => !sameVs q r), fun x _ => S.length - x.2.toNat, ⟨0, rfl, Nat.zero_le _, by simpa using Gl.nil⟩, ?_⟩
 rintro ⟨s1, _⟩ E ⟨i, rfl, hi, hg⟩
 have hE := hg.le
 have hD := h.up hE
 refine hD.ld ?_
 rw [h.vs.len]
 have hfl : ((S.take i).filter fun q => !sameVs q r).length ≤ 1000000 := by
  have := List.length_filter_le (fun q => !sameVs q r) (S.take i)
  rw [List.length_take] at this; omega
 refine ift.of (fun hlt => ?_) fun hlt => ?_
 ·have hil : i < S.length := by have := of_decide_eq_true hlt; dsimp only at this; omega
  have hmm := h.ll _ (List.getElem_mem hil)
  have htk : ((S.take (i + 1)).filter fun q => !sameVs q r) = ((S.take i).filter fun q => !sameVs q r) ++ (if (!sameVs S[i] r) then [S[i]] else []) := by
   rw [List.take_add_one, List.getElem?_eq_getElem hil, Option.toList_some, List.filter_append]
   cases hh : sameVs S[i] r <;> simp [hh]
  refine ⟨fun s2 G => Gl N H G s2 ((S.take (i + 1)).filter fun q => !sameVs q r), ?_, ?_⟩
  ·refine hD.ld (h.vs.ld hD.nle rfl hil fun q hq => ?_)
   refine Qf9 (hq.le hD.nle) (ht.le (hB.trans hE)) hmm.2 hmm.1 ?_
   refine ift.of (fun hs => ?_) fun hs => ?_
   ·refine hD.ld (h.vs.ld hD.nle rfl hil fun q2 hq2 => ?_)
    refine hg.add hq2 hfl fun r2 E2 hg2 => ?_
    rw [htk, if_pos hs]; exact hg2
   ·rw [htk, hs]; simpa using hg
  ·rintro s2 G hG
   rw [Qm (by dsimp only; omega) (by dsimp only; omega)]
   exact ⟨⟨i + 1, by dsimp only; omega, by omega, hG⟩, by first | omega | (dsimp only; omega)⟩
 ·have hie : i = S.length := by have := of_decide_eq_false hlt; dsimp only at this; omega
  subst hie
  rw [List.take_length] at hg
  refine hD.ld ?_
  refine ⟨_, rfl, _, hD.yl, by simp, ?_⟩
  have hv := hg.rowsN (N := Heap.or N (Heap.new H E)) Heap.le_or (Heap.le_or3 (h.nle.trans hE) (Heap.new_le _ _))
  rw [hv.len, h.vs.len]
  have e : decide ((((S.filter fun q => !sameVs q r).length : Nat) : Int) < ((S.length : Nat) : Int)) = decide ((S.filter fun q => !sameVs q r).length < S.length) := by
   congr 1; simp
  rw [e]
  exact k2 hm E s1 hE hv
def fitsB (ps : List Int) (vs r : List V) : Bool := (ps.zip vs).all fun q => fitB q.1 q.2 r
theorem Qgg {r : List V} (hm : mayR r = true) : ∀ {ps : List Int} {vs : List V}, ps.length = vs.length → (fitsB ps vs r = true ↔ picks r ps = some vs)
 | [], [], _ => by simp [fitsB, picks]
 | p :: ps, v :: vs, h => by
  have ih := Qgg hm (ps := ps) (vs := vs) (by simpa using h)
  unfold fitsB at ih ⊢
  rw [List.zip_cons_cons, List.all_cons, Bool.and_eq_true, ih, Ql4 hm]
  simp only [picks]
  cases hp : pick r p with
  | none => simp
  | some w => cases hq : picks r ps <;> simp
 | [], v :: vs, h => by simp at h
 | p :: ps, [], h => by simp at h
theorem QkJ {ps : List Int} {vs r : List V} {k : Nat} (h1 : k < ps.length) (h2 : k < vs.length) : fitsB (ps.take (k + 1)) (vs.take (k + 1)) r = (fitsB (ps.take k) (vs.take k) r && fitB ps[k] vs[k] r) := by
 unfold fitsB
 rw [List.take_add_one, List.getElem?_eq_getElem h1, Option.toList_some, List.take_add_one, List.getElem?_eq_getElem h2, Option.toList_some, List.zip_append (by rw [List.length_take, List.length_take]; omega), List.all_append]
 simp
theorem Qij {sp sv : Sl} {ps : List Int} {vs : List V} {K : Sl → Int → Heap → Prop} (h : DY N H y sL S) (hp : IL B sp ps) (hv : VRow B sv vs) (hB : B.le H) (hok : okRow vs)
 (k1 : ps.length ≠ vs.length → K Sl.nil 1 H)
 (k2 : ps.length = vs.length → ∀ E s2, H.le E → VRows (Heap.or N (Heap.new H E)) s2 (S.filter (fitsB ps vs)) → K s2 0 E) : Qaz C (some (y, 0)) sp sv K H := by
 apply Qe9
 unfold Qcp
 have hln := h.ln
 have hsl := SlIs.len hp
 have htl := hv.len
 refine ift.of (fun h1 => k1 fun e => ?_) fun h1 => ?_
 ·rw [hsl, htl, e] at h1; simp at h1
 have hl : ps.length = vs.length := by rw [hsl, htl] at h1; simp at h1; omega
 have hvl := hok.1.2.1
 refine ⟨fun x E => ∃ i : Nat, x.2 = (i : Int) ∧ i ≤ S.length ∧ Gl N H E x.1 ((S.take i).filter (fitsB ps vs)), fun x _ => S.length - x.2.toNat, ⟨0, rfl, Nat.zero_le _, by simpa using Gl.nil⟩, ?_⟩
 rintro ⟨s1, _⟩ E ⟨i, rfl, hi, hg⟩
 have hE := hg.le
 have hD := h.up hE
 have hBE := hB.trans hE
 refine hD.ld ?_
 rw [h.vs.len]
 have hfl : ((S.take i).filter (fitsB ps vs)).length ≤ 1000000 := by
  have := List.length_filter_le (fitsB ps vs) (S.take i)
  rw [List.length_take] at this; omega
 refine ift.of (fun hlt => ?_) fun hlt => ?_
 ·have hil : i < S.length := by have := of_decide_eq_true hlt; dsimp only at this; omega
  have hmm := h.fb _ (List.getElem_mem hil)
  have htk : ((S.take (i + 1)).filter (fitsB ps vs)) = ((S.take i).filter (fitsB ps vs)) ++ (if fitsB ps vs S[i] then [S[i]] else []) := by
   rw [List.take_add_one, List.getElem?_eq_getElem hil, Option.toList_some, List.filter_append]
   cases hh : fitsB ps vs S[i] <;> simp [hh]
  refine ⟨fun s2 G => Gl N H G s2 ((S.take (i + 1)).filter (fitsB ps vs)), ?_, ?_⟩
  ·rw [hsl]
   refine ⟨fun z G => G = E ∧ ∃ k : Nat, z.2 = (k : Int) ∧ k ≤ ps.length ∧ z.1 = fitsB (ps.take k) (vs.take k) S[i], fun z _ => ps.length - z.2.toNat, ⟨rfl, 0, rfl, Nat.zero_le _, by simp [fitsB]⟩, ?_⟩
   rintro ⟨_, _⟩ G ⟨hG, k, rfl, hk, rfl⟩
   have hG := hG.symm
   subst hG
   refine ift.of (fun hlt2 => ?_) fun hlt2 => ?_
   ·have hkl : k < ps.length := by have := of_decide_eq_true hlt2; dsimp only at this; omega
    have hkv : k < vs.length := by omega
    refine SlIs.fI hp hBE (z := 1) (fun _ => rfl) (by omega) rfl hkl (j := 0) (f := fun q => q) (fun _ => rfl) fun q hq => ?_
    subst hq
    refine ⟨fun b F => F = E ∧ b = (fitsB (ps.take k) (vs.take k) S[i] && fitB ps[k] vs[k] S[i]), ?_, ?_⟩
    ·refine ⟨E, Heap.le.refl _, ift.of (fun hb => ?_) fun hb => ⟨rfl, ?_⟩⟩
     ·dsimp only at hb
      rw [hb]
      unfold fitB pick
      refine ift.of (fun h0 => ?_) fun h0 => ⟨rfl, ?_⟩
      ·have h0 := of_decide_eq_true h0
       rw [if_neg (by omega)]
       refine hD.ld (h.vs.ld hD.nle rfl hil fun q2 hq2 => ?_)
       rw [hq2.len]
       refine ift.of (fun h3 => ?_) fun h3 => ⟨rfl, ?_⟩
       ·have h3 := of_decide_eq_true h3
        have hpl : ps[k].toNat < S[i].length := by omega
        rw [List.getElem?_eq_getElem hpl]
        refine hv.ld hBE rfl hkv fun z hz => ?_
        have hzk := Qby (List.getElem_mem hkv)
        refine QeQ (hz.le hBE) (hok.1.1.mem (List.getElem_mem hkv)) (by have := hok.2; omega) ⟨Heap.le.refl _, ?_⟩
        have hck : ((checkV vs[k] : Int) == 0) = mayV vs[k] := by unfold mayV; rfl
        rw [hck]
        refine ift.of (fun hm => ?_) fun hm => ⟨rfl, ?_⟩
        ·rw [hm]
         refine hD.ld (h.vs.ld hD.nle rfl hil fun q3 hq3 => ?_)
         refine hq3.ld hD.nle (i := ps[k].toNat) (by omega) hpl fun y2 hy2 => ?_
         refine hv.ld hBE rfl hkv fun y3 hy3 => ?_
         exact QkU (hy2.le hD.nle) (hy3.le hBE) (hmm.1.1.mem (List.getElem_mem hpl)) ⟨Heap.le.refl _, rfl, rfl⟩
        ·rw [hm]; rfl
       ·have h3 := of_decide_eq_false h3
        rw [List.getElem?_eq_none (by omega)]; rfl
      ·have h0 := of_decide_eq_false h0
       rw [if_pos (by omega)]; rfl
     ·dsimp only at hb
      rw [hb]; rfl
    ·rintro b F ⟨rfl, rfl⟩
     rw [Qm (by dsimp only; omega) (by dsimp only; omega)]
     exact ⟨⟨rfl, k + 1, by dsimp only; omega, by omega, (QkJ hkl hkv).symm⟩, by first | omega | (dsimp only; omega)⟩
   ·have hke : k = ps.length := by have := of_decide_eq_false hlt2; dsimp only at this; omega
    subst hke
    rw [List.take_length, hl, List.take_length]
    refine ift.of (fun hb => ?_) fun hb => ?_
    ·refine hD.ld (h.vs.ld hD.nle rfl hil fun q2 hq2 => ?_)
     refine hg.add hq2 hfl fun r2 E2 hg2 => ?_
     dsimp only at hb
     rw [htk, if_pos hb]; exact hg2
    ·dsimp only at hb
     rw [htk, hb]; simpa using hg
  ·rintro s2 G hG
   rw [Qm (by dsimp only; omega) (by dsimp only; omega)]
   exact ⟨⟨i + 1, by dsimp only; omega, by omega, hG⟩, by first | omega | (dsimp only; omega)⟩
 ·have hie : i = S.length := by have := of_decide_eq_false hlt; dsimp only at this; omega
  subst hie
  rw [List.take_length] at hg
  exact k2 hl E s1 hE (hg.rowsN Heap.le_or (Heap.le_or3 (h.nle.trans hE) (Heap.new_le _ _)))
end
end
section
open Go Go.Proofs
structure StV where
 k : Int
 row : List V
 ps : List Int
def StIs (A : Heap) (v : StV) (x : Qf) : Prop := x.Kind = v.k ∧ VRow A x.Row v.row ∧ IL A x.Places v.ps
def StL (A : Heap) := SlIs (StIs A) Qf.c A
section
variable {C : Ctx} {A A2 B N Z H E E2 D : Heap} {o o2 : Own_} {x y : Nat} {R R2 S S2 : List (List V)} {s sL t : Sl}
theorem Ql8 {l : List StV} {K : Bool → Heap → Prop} (hs : StL A s l) (hA : A.le H) (hb : ∀ v ∈ l, pVs v.row ≤ 1000000000000 ∧ v.ps.length ≤ 1000000000000) (k : ∀ b, (b = false → l.length ≤ 60 ∧ ∀ v ∈ l, pVs v.row < 3000 ∧ v.ps.length < 3000) → K b H) : QdA C s K H := by
 apply QhP
 unfold QeV
 have hln := SlIs.len hs
 have hlb := SlIs.bd hs
 rw [hln]
 refine ⟨fun z F => F = H ∧ ∃ i n : Nat, z.1 = (n : Int) ∧ z.2 = (i : Int) ∧ i ≤ l.length ∧ n ≤ 3000000000000 ∧ (n < 3000 → ∀ j, (h : j < l.length) → j < i → pVs l[j].row < 3000 ∧ l[j].ps.length < 3000), fun z _ => l.length - z.2.toNat, ⟨rfl, 0, 0, rfl, rfl, Nat.zero_le _, by omega, fun _ j h hj => by omega⟩, ?_⟩
 rintro ⟨_, _⟩ F ⟨hF, i, n, rfl, rfl, hi, hn, hq⟩
 have hF := hF.symm
 subst hF
 refine ift.of (fun h => ?_) (fun h => ?_)
 ·have h1 := QnF h
  have hlt : i < l.length := by have := h1.1; dsimp only at this; omega
  have hn3 : n < 3000 := by have := h1.2; dsimp only at this; omega
  have hm := hb _ (List.getElem_mem hlt)
  refine ⟨H, Heap.le.refl _, SlIs.fL hs hA (z := 3) (fun _ => rfl) (by omega) rfl hlt (j := 1) (f := fun y => y.Row) (fun _ => rfl) fun y1 hy1 => ?_⟩
  refine SlIs.fL hs hA (z := 3) (fun _ => rfl) (by omega) rfl hlt (j := 2) (f := fun y => y.Places) (fun _ => rfl) fun y2 hy2 => ?_
  refine Qme hy1.2.1 hA hm.1 fun m m1 m2 => ⟨Heap.le.refl _, ?_⟩
  rw [SlIs.len hy2.2.2]
  rw [Qm (x := ((n : Int), (i : Int)).1 + 1) (by dsimp only; omega) (by dsimp only; omega), Qm (x := ((n : Int), (i : Int)).1 + 1 + (m : Int)) (by dsimp only; omega) (by dsimp only; omega), Qm (x := ((n : Int), (i : Int)).1 + 1 + (m : Int) + ((l[i].ps.length : Nat) : Int)) (by dsimp only; omega) (by dsimp only; omega), Qm (by dsimp only; omega) (by dsimp only; omega)]
  refine ⟨⟨rfl, i + 1, n + 1 + m + l[i].ps.length, by dsimp only; omega, by dsimp only; omega, by omega, by omega, fun h5 j hj hji => ?_⟩, by first | omega | (dsimp only; omega)⟩
  by_cases he : j = i
  ·subst he
   have := m1 (by omega)
   exact ⟨by omega, by omega⟩
  ·exact hq hn3 j hj (by omega)
 ·have h1 := QnG h
  dsimp only at h1
  refine k _ fun hb2 => ?_
  simp only [Bool.or_eq_false_iff, decide_eq_false_iff_not] at hb2
  refine ⟨by omega, fun v hv => ?_⟩
  obtain ⟨j, hj, rfl⟩ := List.getElem_of_mem hv
  exact hq (by omega) j hj (by omega)
/-- what is kept from step to step -/
structure QS (B E : Heap) (x y : Nat) (o : Own_) (A N : Heap) (R S : List (List V)) (sL : Sl) : Prop where
 ix : IX o A E x R
 bs : Bs o N E
 bn : B.le N
 dy : DY N E y sL S
 yo : o y = none
 ya : A y = none
/-- a step's own memory -/
structure PZ (Z E : Heap) (o : Own_) (A N : Heap) (y : Nat) : Prop where
 zb : Bs o Z E
 za : ∀ c, Z c ≠ none → A c = none ∧ N c = none
 zy : Z y = none
theorem Qm8 {A B : Heap} (h : A.le B) {c : Nat} (hc : A c ≠ none) : B c ≠ none := by
 cases he : A c with
 | none => exact absurd he hc
 | some e => rw [h c e he]; simp
theorem QS.mv (h : QS B E x y o A N R S sL) (hz : PZ Z E o A N y) (hm : Mv o A E o2 A2 E2) (hi : IX o2 A2 E2 x R2) : QS B E2 x y o2 A2 N R2 S sL ∧ PZ Z E2 o2 A2 N y := by
 have hb := h.bs.mv hm
 have hyE : E y ≠ none := by rw [h.dy.yl]; simp
 refine ⟨⟨hi, hb, h.bn, ⟨hm.c.kp _ _ h.dy.yl fun w hw => (by rw [h.yo] at hw; cases hw), h.dy.vs, hb.le, h.dy.yn, h.dy.fb, h.dy.ln⟩, ?_, ?_⟩, ⟨hz.zb.mv hm, fun c hc => ⟨?_, (hz.za c hc).2⟩, hz.zy⟩⟩
 ·cases he : o2 y with
  | none => rfl
  | some w =>
   rcases hm.c.dn y w he with h1 | ⟨h1, _⟩
   ·rw [h.yo] at h1; cases h1
   ·exact absurd h1 hyE
 ·cases he : A2 y with
  | none => rfl
  | some e =>
   rcases hm.n y (by rw [he]; simp) with h1 | h1
   ·exact absurd h.ya h1
   ·exact absurd h1 hyE
 ·cases he : A2 c with
  | none => rfl
  | some e =>
   rcases hm.n c (by rw [he]; simp) with h1 | h1
   ·exact absurd (hz.za c hc).1 h1
   ·exact absurd h1 (Qm8 hz.zb.le hc)
theorem QS.up (h : QS B E x y o A N R S sL) (hle : E.le E2) : QS B E2 x y o A N R S sL := ⟨h.ix.up hle, h.bs.up hle, h.bn, h.dy.up hle, h.yo, h.ya⟩
theorem PZ.up (h : PZ Z E o A N y) (hle : E.le E2) : PZ Z E2 o A N y := ⟨h.zb.up hle, h.za, h.zy⟩
theorem QS.doc {E' : Heap} {sL2 : Sl} (h : QS B E x y o A N R S sL) (hz : PZ Z E o A N y) (hle : E.le E') (hv : VRows (Heap.or N (Heap.new E E')) sL2 S2) (hf : ∀ l ∈ S2, okRow l) (hl : S2.length ≤ 900) :
 QS B (E'.put y (.row [slv sL2])) x y o A (Heap.or N (Heap.new E E')) R S2 sL2 ∧ PZ Z (E'.put y (.row [slv sL2])) o A (Heap.or N (Heap.new E E')) y := by
 have hyE : E y ≠ none := by rw [h.dy.yl]; simp
 have hNy : (Heap.or N (Heap.new E E')) y = none := Heap.or_none h.dy.yn (by
  cases he : Heap.new E E' y with
  | none => rfl
  | some e => exact absurd (Heap.new_inv he).1 hyE)
 have hb := h.bs.ext h.ix.oh hle
 have hbe : ∀ {M : Heap}, M.le E' → M y = none → M.le (E'.put y (.row [slv sL2])) := fun hM hy c e hc => by
  have : c ≠ y := fun e' => by rw [e', hy] at hc; cases hc
  rw [Heap.put_ne _ _ _ this]; exact hM c e hc
 refine ⟨⟨(h.ix.up hle).putN h.yo h.ya, ⟨hbe hb.le hNy, hb.ap⟩, h.bn.trans Heap.le_or, ⟨Heap.put_same .., hv, hbe hb.le hNy, hNy, hf, hl⟩, h.yo, h.ya⟩, ⟨⟨hbe (hz.zb.le.trans hle) hz.zy, hz.zb.ap⟩, fun c hc => ⟨(hz.za c hc).1, Heap.or_none (hz.za c hc).2 ?_⟩, hz.zy⟩⟩
 cases he : Heap.new E E' c with
 | none => rfl
 | some e => exact absurd (Heap.new_inv he).1 (Qm8 hz.zb.le hc)
/-- the step's own memory is written over -/
theorem QS.zone (h : QS B E x y o A N R S sL) (hz : PZ Z E o A N y) (hk : ∀ c, Z c = none → E2 c = E c) : QS B E2 x y o A N R S sL := by
 have hzn : ∀ {M : Heap}, M.le E → (∀ c, Z c ≠ none → M c = none) → M.le E2 := fun hM hn c e hc => by
  have : Z c = none := by
   cases hh : Z c with
   | none => rfl
   | some e' => rw [hn c (by rw [hh]; simp)] at hc; cases hc
  rw [hk c this]; exact hM c e hc
 have hO := h.ix.oh
 have hAE := hzn hO.le fun c hc => (hz.za c hc).1
 have hNE := hzn h.bs.le fun c hc => (hz.za c hc).2
 refine ⟨?_, ⟨hNE, h.bs.ap⟩, h.bn, ⟨by rw [hk y hz.zy]; exact h.dy.yl, h.dy.vs, hNE, h.dy.yn, h.dy.fb, h.dy.ln⟩, h.yo, h.ya⟩
 obtain ⟨⟨m, g, L, p⟩, q1, q2, q3, q4⟩ := h.ix
 exact ⟨⟨m, g, L, p.keep hAE fun c w hw => hk c (hz.zb.ap c w hw)⟩, q1, q2, q3, q4⟩
theorem Qly {H H2 : Heap} : ∀ {cs : List Value} {p : Nat × Nat}, H2 p.1 = H p.1 → rds H p cs → rds H2 p cs
 | [], _, _, _ => trivial
 | v :: r, p, h, ⟨h1, h2⟩ => ⟨by unfold rd at h1 ⊢; rw [h]; exact h1, Qly (p := (p.1, p.2 + 1)) h h2⟩
theorem Qmq {H H2 : Heap} {s : Sl} {cs : List Value} (h : ∀ q, s.p = some q → H2 q.1 = H q.1) (hr : rdsl H s cs) : rdsl H2 s cs := by
 rcases hr with hr | ⟨hx, q, hq, hr⟩
 ·exact .inl hr
 ·exact .inr ⟨hx, q, hq, Qly (h q hq) hr⟩
/-- the rows told are written over, one after the other -/
theorem Qi7 {T : List (List V)} {ys : List Sl} {K : Heap → Prop} (h : Told D E R T s ys) (hl : T.length ≤ 1000000) (k : ∀ E2, D.le E2 → K E2) :
 lp (α := Int) 0 E (fun x149 J150 H151 => ift (decide ((x149 : Int) < (Sl.len s : Int))) (ixa s x149 fun p153 => ldL H151 (p153.1, p153.2 + (x149 : Int).toNat * 1) fun x158 => Qw C x158 (fun H160 => J150 (w .i64 (x149 + 1)) H160) H151) (K H151)) := by
 have hsl : s.len = ys.length := by have := h.og.own.len; simpa using this
 have hyl := h.len
 have hSp : ∀ j, (hj : j < ys.length) → ∃ k, Sp (fun c => D c = none ∧ ∀ p, s.p = some p → p.1 ≠ c) E k ys[j] := fun j hj => by
  obtain ⟨k, hk⟩ := (h.og.done j _ _ (List.getElem?_eq_getElem (by omega)) (List.getElem?_eq_getElem hj)).sp
  refine ⟨k, hk.to fun b e' hb' he' => ⟨⟨hb', fun p hp hpc => ?_⟩, Heap.off_le _ _ _ _ he'⟩⟩
  have := Heap.off_fresh s E p hp
  rw [hpc, he'] at this; cases this
 refine ⟨fun z F => D.le F ∧ ∃ i : Nat, z = (i : Int) ∧ i ≤ ys.length ∧ (∀ q, s.p = some q → F q.1 = E q.1) ∧ ∀ j, (hj : j < ys.length) → ∃ k, Sp (fun c => D c = none ∧ ∀ p, s.p = some p → p.1 ≠ c) F k ys[j], fun z _ => ys.length - z.toNat, ⟨h.le, 0, rfl, Nat.zero_le _, fun _ _ => rfl, hSp⟩, ?_⟩
 rintro _ F ⟨hF, i, rfl, hi, hB, hS⟩
 have hr := Qmq hB h.og.own.own.rdsl
 rw [hsl]
 refine ift.of (fun hlt => ?_) fun _ => k F hF
 have hil : i < ys.length := by have := of_decide_eq_true hlt; omega
 have hix : ixa s (i : Int) fun p => ldL F (p.1, p.2 + ((i : Nat) : Int).toNat * 1) fun x158 => x158 = ys[i] := by
  rw [Int.toNat_natCast, Nat.mul_one]
  refine Qic hr (by omega) (by omega) (fun e => by have := congrArg List.length e; simp at this; rw [this] at hil; simp at hil) fun p hp hr2 => ?_
  exact ⟨ys[i], Qci hr2 i _ (by simp [hil]), rfl⟩
 obtain ⟨p, p1, p2, p3, p4, t, t1, t2⟩ := hix
 refine ⟨p, p1, p2, p3, by rw [hsl] at p4; rw [hsl]; exact p4, t, t1, ?_⟩
 subst t2
 obtain ⟨kk, hkk⟩ := hS i hil
 refine QkB hkk fun F2 f1 f2 => ?_
 rw [Qm (by omega) (by omega)]
 refine ⟨⟨fun c e hc => ?_, i + 1, by omega, by omega, fun q hq => ?_, fun j hj => ?_⟩, by first | omega | (dsimp only; omega)⟩
 ·rw [f1 c fun hn => by rw [hn.1] at hc; cases hc]; exact hF c e hc
 ·rw [f1 q.1 fun hn => hn.2 q hq rfl]; exact hB q hq
 ·obtain ⟨k2, hk2⟩ := hS j hj
  exact ⟨k2, f2 _ _ hk2⟩
end
end
section
open Go Go.Proofs
/-- a step's data -/
structure SD (B Z : Heap) (b : Nat) (x : Qf) (v : StV) (tr tp : Sl) : Prop where
 bz : ∃ mu, Z b = some (mu, .row (Qf.c x))
 kd : x.Kind = v.k
 vr : VRow B x.Row v.row
 vp : IL B x.Places v.ps
 zr : VRow Z tr v.row
 zp : IL Z tp v.ps
 ok : okRow v.row
 po : PsOk v.ps
/-- index and document alike -/
structure Alk (R S : List (List V)) : Prop where
 ri : Rise S
 me : ∀ r, r ∈ R ↔ r ∈ S
section
variable {C : Ctx} {A A2 B N Z H E E2 D : Heap} {o o2 : Own_} {x y b : Nat} {R R2 S S2 : List (List V)} {s sL t tr tp : Sl} {xs : Qf} {v : StV}
theorem SD.ld (d : SD B Z b xs v tr tp) (hz : Z.le E) {j : Nat} {q : Sl} (hj : (Qf.c xs)[j]? = some (slv q)) {K : Sl → Prop} (k : K q) : ldL E ((b, 0).1, (b, 0).2 + j) K := by
 obtain ⟨mu, h⟩ := d.bz
 exact ⟨q, by rw [Q7 (hz _ _ h)]; rw [← hj]; simp, k⟩
theorem Alk.len (h : Alk R S) (hi : IX o A E x R) : R.length = S.length := hi.len_of h.ri h.me
theorem Told.up {T : List (List V)} {ys : List Sl} (h : Told D E R T s ys) (hle : E.le E2) : Told D E2 R T s ys := by
 refine ⟨⟨h.og.own.up hle, h.og.le, fun j l y hj hy => (h.og.done j l y hj hy).up fun c e hc => ?_⟩, h.len, h.rise, h.perm⟩
 exact Heap.off_some (hle _ _ (Heap.off_le _ _ _ _ hc)) fun p hp e' => by
  have := Heap.off_fresh s E p hp
  rw [e', hc] at this; cases this
theorem Qm3 {S : List (List V)} {r : List V} : (S.filter fun q => !sameVs q r).length < S.length ↔ r ∈ S := by
 induction S with
 | nil => simp
 | cons a S ih =>
  have hle := List.length_filter_le (fun q => !sameVs q r) S
  cases h : sameVs a r with
  | true =>
   have := QbG.1 h
   rw [List.filter_cons_of_neg (by simp [h]), this]
   simp only [List.length_cons, List.mem_cons, true_or, iff_true]; omega
  | false =>
   have hne : r ≠ a := fun e => by rw [QbG.2 e.symm] at h; cases h
   rw [List.filter_cons_of_pos (by simp [h])]
   simp only [List.length_cons, List.mem_cons, hne, false_or]
   rw [← ih]; omega
theorem Ql2 {S : List (List V)} {r q : List V} : q ∈ (S.filter fun q => !sameVs q r) ↔ q ∈ S ∧ q ≠ r := by
 rw [List.mem_filter]
 refine ⟨fun ⟨a, b⟩ => ⟨a, fun e => ?_⟩, fun ⟨a, b⟩ => ⟨a, ?_⟩⟩
 ·rw [QbG.2 e] at b; cases b
 ·cases h : sameVs q r with
  | false => rfl
  | true => exact absurd (QbG.1 h) b
theorem Qml {F J : Heap → Prop} (h : QS B E x y o A N R S sL) (hz : PZ Z E o A N y) (ha : Alk R S) (d : SD B Z b xs v tr tp) (hl : S.length < 900)
 (k : ∀ o A N R S2 sL E, QS B E x y o A N R S2 sL → PZ Z E o A N y → Alk R S2 → S2.length ≤ S.length + 1 → J E) :
 Qr C (some (x, 0)) tr (fun r39 r40 H41 => ldL H41 ((b, 0).1, (b, 0).2 + 1) fun x42 => QaT C (some (y, 0)) x42 (fun r44 r45 H46 => ift ((!(r39 == r44)) || ((r40 : Int) != r45)) (F H46) (J H46)) H41) E := by
 have hRl := ha.len h.ix
 refine h.ix.put (by omega) hz.zb ⟨d.zr, d.ok.1, d.ok.2⟩ fun b1 e1 o2 A2 E2 R2 m1 i1 q1 hb1 he1 _ => ?_
 obtain ⟨h2, z2⟩ := h.mv hz m1 i1
 refine d.ld (j := 1) z2.zb.le rfl ?_
 refine QlC h2.dy d.vr (h2.bn.trans h2.bs.le) d.ok (fun hm => ?_) (fun hm hr => ?_) fun hm hr E3 sL2 e3 hv3 => ?_
 ·have hb : b1 = false := by
   cases b1 with
   | false => rfl
   | true => rw [(hb1.1 rfl).1] at hm; cases hm
  rw [hb, he1, hm]
  exact Qd rfl (k o2 A2 N R2 S sL E2 h2 z2 ⟨ha.ri, fun r => by rw [q1, ha.me, hm]; simp⟩ (by omega))
 ·have hb : b1 = false := by
   cases b1 with
   | false => rfl
   | true => exact absurd ((ha.me _).2 hr) (hb1.1 rfl).2
  rw [hb, he1, hm]
  refine Qd rfl (k o2 A2 N R2 S sL E2 h2 z2 ⟨ha.ri, fun r => ?_⟩ (by omega))
  rw [q1, ha.me]
  exact ⟨fun h => h.elim id fun h => by rw [h.1]; exact hr, .inl⟩
 ·have hb : b1 = true := hb1.2 ⟨hm, fun h => hr ((ha.me _).1 h)⟩
  rw [hb, he1, hm]
  have hmay : ∀ r ∈ S ++ [v.row], mayR r = true := fun r hr2 => by
   rcases List.mem_append.1 hr2 with h5 | h5
   ·exact (h.ix.f r ((ha.me r).2 h5)).2
   ·rw [List.mem_singleton] at h5; rw [h5]; exact hm
  obtain ⟨s1, s2⟩ := QmA (n := S.length + 1) hmay (by simp)
  have hsl := Qde (κ := cmpR) (S.length + 1) (S ++ [v.row])
  have hsl : (msort cmpR (S.length + 1) (S ++ [v.row])).length ≤ S.length + 1 := by
   have := hsl; simp only [List.length_append, List.length_singleton] at this; omega
  obtain ⟨h3, z3⟩ := h2.doc z2 e3 (hv3.le (Heap.le_or3 (h2.bs.le.trans e3) (Heap.new_le _ _))) (fun l hl2 => by
   rcases List.mem_append.1 ((s2 l).1 hl2) with h5 | h5
   ·exact h.dy.fb l h5
   ·rw [List.mem_singleton] at h5; rw [h5]; exact d.ok) (by omega)
  refine Qd rfl (k _ _ _ _ _ _ _ h3 z3 ⟨s1, fun r => ?_⟩ hsl)
  rw [q1, s2, ha.me, hm, List.mem_append, List.mem_singleton]; simp
theorem Ql0 {F J : Heap → Prop} (h : QS B E x y o A N R S sL) (hz : PZ Z E o A N y) (ha : Alk R S) (d : SD B Z b xs v tr tp) (hBy : B y = none)
 (k : ∀ o A N R S2 sL E, QS B E x y o A N R S2 sL → PZ Z E o A N y → Alk R S2 → S2.length ≤ S.length + 1 → J E) :
 QG C (some (x, 0)) tr (fun r39 r40 H41 => ldL H41 ((b, 0).1, (b, 0).2 + 1) fun x42 => QaR C (some (y, 0)) x42 (fun r44 r45 H46 => ift ((!(r39 == r44)) || ((r40 : Int) != r45)) (F H46) (J H46)) H41) E := by
 refine h.ix.del hz.zb ⟨d.zr, d.ok.1, d.ok.2⟩ fun b1 e1 o2 E2 R2 m1 i1 q1 hb1 he1 _ => ?_
 obtain ⟨h2, z2⟩ := h.mv hz m1 i1
 refine d.ld (j := 1) z2.zb.le rfl ?_
 refine QlB h2.dy d.vr (h2.bn.trans h2.bs.le) d.ok hBy (fun hm => ?_) fun hm E3 sL2 e3 hv3 => ?_
 ·have hnr : v.row ∉ R := fun hr => by rw [(h.ix.f _ hr).2] at hm; cases hm
  have hb : b1 = false := by
   cases b1 with
   | false => rfl
   | true => exact absurd (hb1.1 rfl) hnr
  rw [hb, he1, hm]
  refine Qd rfl (k o2 A N R2 S sL E2 h2 z2 ⟨ha.ri, fun r => ?_⟩ (by omega))
  rw [q1, ← ha.me]
  exact ⟨fun h => h.1, fun h => ⟨h, fun e => hnr (e ▸ h)⟩⟩
 ·have hb : b1 = decide ((S.filter fun q => !sameVs q v.row).length < S.length) := by
   have h5 : b1 = true ↔ decide ((S.filter fun q => !sameVs q v.row).length < S.length) = true := by
    rw [decide_eq_true_iff, Qm3, hb1, ha.me]
   cases b1 <;> cases hh : decide ((S.filter fun q => !sameVs q v.row).length < S.length) <;> simp_all
  have hfl := List.length_filter_le (fun q => !sameVs q v.row) S
  obtain ⟨h3, z3⟩ := h2.doc z2 e3 hv3 (fun l hl2 => h.dy.fb l (List.mem_filter.1 hl2).1) (by have := h.dy.ln; omega)
  rw [hb, he1, hm]
  refine Qd (by simp) (k _ _ _ _ _ _ _ h3 z3 ⟨ha.ri.filter, fun r => ?_⟩ (by omega))
  rw [q1, ha.me, Ql2]
theorem Qlg (hFm : FmtC C) {F J : Heap → Prop} (h : QS B E x y o A N R S sL) (hz : PZ Z E o A N y) (ha : Alk R S) (d : SD B Z b xs v tr tp)
 (k : ∀ o A N R S2 sL E, QS B E x y o A N R S2 sL → PZ Z E o A N y → Alk R S2 → S2.length ≤ S.length + 1 → J E) :
 QK C (some (x, 0)) tp tr (fun r61 r62 H63 => ldL H63 ((b, 0).1, (b, 0).2 + 2) fun x64 => ldL H63 ((b, 0).1, (b, 0).2 + 1) fun x66 => Qaz C (some (y, 0)) x64 x66 (fun r68 r69 H70 =>
  jn (α := Bool) (fun b71 H77 => ift b71 (F H77) (lp (α := Int) 0 H77 (fun x79 J80 H81 => ift (decide ((x79 : Int) < (Sl.len r61 : Int))) (ixa r61 x79 fun p83 => ldL H81 (p83.1, p83.2 + (x79 : Int).toNat * 1) fun x88 => Qw C x88 (fun H90 => J80 (w .i64 (x79 + 1)) H90) H81) (J H81))))
   (fun J72 => ift ((r62 : Int) != r69) (J72 true H70) (QY C r61 r68 (fun r75 H76 => J72 (!r75) H76) H70))) H63) E := by
 have nilR : ∀ {M : Heap}, VRows M Sl.nil [] := fun {M} => ⟨[], .inl rfl, rfl, rfl, fun i x l hx => by simp at hx⟩
 by_cases hl : v.ps.length = v.row.length
 ·refine h.ix.look hFm hz.zb d.zp ⟨d.zr, d.ok.1, d.ok.2⟩ d.po hl fun o2 A2 D T s1 ys R' E2 m1 i1 tT qT => ?_
  obtain ⟨h2, z2⟩ := h.mv hz m1 i1
  have h3 := h2.up tT.le
  have z3 := z2.up tT.le
  refine d.ld (j := 2) z3.zb.le rfl (d.ld (j := 1) z3.zb.le rfl ?_)
  refine Qij h3.dy d.vp d.vr (h3.bn.trans h3.bs.le) d.ok (fun hne => absurd hl hne) fun _ E3 s2 e3 hv3 => ?_
  have hTT : T = S.filter (fitsB v.ps v.row) := by
   refine Qku tT.rise ha.ri.filter fun r => ?_
   rw [tT.mem, qT, List.mem_filter, ha.me]
   refine ⟨fun ⟨a, c⟩ => ⟨a, (Qgg (h.ix.f r ((ha.me r).2 a)).2 hl).2 c⟩, fun ⟨a, c⟩ => ⟨a, (Qgg (h.ix.f r ((ha.me r).2 a)).2 hl).1 c⟩⟩
  have rr := tT.rows
  rw [hTT] at rr
  have hfl := List.length_filter_le (fitsB v.ps v.row) S
  have hln := h.dy.ln
  refine jn.inl (Qd rfl ?_)
  refine Qb1 rr hv3 ((Heap.new_le _ _).trans e3) (Heap.or_le (h3.bs.le.trans e3) (Heap.new_le _ _)) (by omega) (fun l hl2 => h.dy.ll l (List.mem_filter.1 hl2).1) ?_
  refine Qd rfl ?_
  refine Qi7 (tT.up e3) (by rw [hTT]; omega) fun E4 e4 => ?_
  exact k _ _ _ _ _ _ _ (h2.up e4) (z2.up e4) ha (by omega)
 ·refine h.ix.lookBad hFm hz.zb d.zp ⟨d.zr, d.ok.1, d.ok.2⟩ d.po hl ?_
  refine d.ld (j := 2) hz.zb.le rfl (d.ld (j := 1) hz.zb.le rfl ?_)
  refine Qij h.dy d.vp d.vr (h.bn.trans h.bs.le) d.ok (fun _ => ?_) fun he => absurd he hl
  refine jn.inl (Qd rfl ?_)
  refine Qb1 (A := E) (B := E) nilR nilR (Heap.le.refl _) (Heap.le.refl _) (by simp) (fun l hl2 => by cases hl2) ?_
  refine Qd rfl ?_
  refine Qi7 (D := E) (T := []) (ys := []) (R := []) Told.nil (by simp) fun E4 e4 => ?_
  exact k _ _ _ _ _ _ _ (h.up e4) (hz.up e4) ha (by omega)
theorem Qk4 {J : Option (Nat × Nat) → Heap → Prop} (h : QS B E x y o A N R S sL) (hz : PZ Z E o A N y) (ha : Alk R S) (d : SD B Z b xs v tr tp)
 (k : ∀ x o A N R S2 sL E, QS B E x y o A N R S2 sL → PZ Z E o A N y → Alk R S2 → S2.length ≤ S.length + 1 → J (some (x, 0)) E) :
 Qay C (some (x, 0)) (fun r92 H93 => Qr C (some (x, 0)) tr (fun r94 r95 H96 => ldL H96 ((b, 0).1, (b, 0).2 + 1) fun x97 => QG C (some (x, 0)) x97 (fun r99 r100 H101 => nw ((Qa.c (⟨1, 0, [], Sl.nil⟩ : Qa)) ++ []) (fun b102 H103 => Qr C (some (x, 0)) (Sl.of (some (b102, 0)) 1 1) (fun r104 r105 H106 => J r92 H106) H103) H101) H96) H93) E := by
 have hln := h.dy.ln
 have hRl := ha.len h.ix
 refine h.ix.copy fun c o' A' E1 e1 i' n1 n2 => ?_
 have h1 := h.up e1
 have z1 := hz.up e1
 have dj : Dj o A o' A' := by
  refine ⟨fun q w hw => ⟨?_, ?_⟩, fun q w hw => h.ix.oh.le.none (n1 q w hw)⟩
  ·cases he : o' q with
   | none => rfl
   | some w' => exact absurd (n1 q w' he) (h.ix.oh.oh q w hw)
  ·cases he : A' q with
   | none => rfl
   | some e =>
    rcases n2 q (by rw [he]; simp) with h5 | h5
    ·exact absurd (h.ix.oh.ap q w hw) h5
    ·exact absurd h5 (h.ix.oh.oh q w hw)
 refine h1.ix.put (by omega) z1.zb ⟨d.zr, d.ok.1, d.ok.2⟩ fun b1 f1 o2 A2 E2 R2 m1 i1 _ _ _ l1 => ?_
 obtain ⟨h2, z2⟩ := h1.mv z1 m1 i1
 obtain ⟨j2, dj2⟩ := i'.other m1 dj
 refine d.ld (j := 1) z2.zb.le rfl ?_
 refine h2.ix.del (h2.bs.sub h2.bn) ⟨d.vr, d.ok.1, d.ok.2⟩ fun b2 f2 o3 E3 R3 m2 i2 _ _ _ l2 => ?_
 obtain ⟨h3, z3⟩ := h2.mv z2 m2 i2
 obtain ⟨j3, dj3⟩ := j2.other m2 dj2
 refine nwR (xs := [⟨1, 0, [], Sl.nil⟩]) (l := [.mk 1 0 [] []]) rfl (fun B => ⟨⟨rfl, rfl, rfl, [], .inl rfl, rfl, trivial⟩, trivial⟩) rfl fun bb E4 e4 w4 => ?_
 have okb : okRow [V.mk 1 0 [] []] := by refine ⟨⟨?_, ?_, ?_⟩, ?_⟩ <;> simp [VBs, VB, vsizes, vsize, vtot, vtots]
 have h4 := h3.up e4
 have z4 := z3.up e4
 refine h4.ix.put (by omega) (Qlk h3.ix.oh e4) (QmY w4 okb) fun b3 f3 o5 A5 E5 R5 m3 i5 _ _ _ _ => ?_
 obtain ⟨h5, z5⟩ := h4.mv z4 m3 i5
 obtain ⟨j5, dj5⟩ := (j3.up e4).other m3 dj3
 have hyE : E y ≠ none := by rw [h.dy.yl]; simp
 refine k c o' A' N R S sL E5 ⟨j5, ⟨h5.bs.le, fun q w hw => h.bs.le.none (n1 q w hw)⟩, h.bn, h5.dy, ?_, ?_⟩ ⟨⟨z5.zb.le, fun q w hw => hz.zb.le.none (n1 q w hw)⟩, fun q hq => ⟨?_, (hz.za q hq).2⟩, hz.zy⟩ ha (by omega)
 ·cases he : o' y with
  | none => rfl
  | some w => exact absurd (n1 y w he) hyE
 ·cases he : A' y with
  | none => rfl
  | some e =>
   rcases n2 y (by rw [he]; simp) with h6 | h6
   ·exact absurd h.ya h6
   ·exact absurd h6 hyE
 ·cases he : A' q with
  | none => rfl
  | some e =>
   rcases n2 q (by rw [he]; simp) with h6 | h6
   ·exact absurd (hz.za q hq).1 h6
   ·exact absurd h6 (Qm8 hz.zb.le hq)
end
end
end Sx
end
