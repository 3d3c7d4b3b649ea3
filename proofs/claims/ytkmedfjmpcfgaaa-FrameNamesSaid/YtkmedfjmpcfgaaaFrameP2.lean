/-
  Numbers as four bytes, frames, the whole frames of a text.
-/
import Derived.Test.YtkmedfjmpcfgaaaFrameP1
set_option linter.unusedVariables false
set_option maxRecDepth 10000
namespace Sx
open Go Go.Proofs

def four (n : Nat) : Str := [UInt8.ofNat (n / 16777216), UInt8.ofNat (n / 65536), UInt8.ofNat (n / 256), UInt8.ofNat n]
def num4 (a b c d : UInt8) : Nat := a.toNat * 16777216 + b.toNat * 65536 + c.toNat * 256 + d.toNat

theorem num4_lt (a b c d : UInt8) : num4 a b c d < 4294967296 := by
  have := u8_lt a; have := u8_lt b; have := u8_lt c; have := u8_lt d
  unfold num4; omega

theorem num4_four {n : Nat} (h : n < 4294967296) : num4 (UInt8.ofNat (n / 16777216)) (UInt8.ofNat (n / 65536)) (UInt8.ofNat (n / 256)) (UInt8.ofNat n) = n := by
  simp only [num4, UInt8.toNat_ofNat']
  omega

theorem sShr_nat (n k : Nat) (hk : k ≤ 32) : sShr .u32 (n : Int) (k : Int) = ((n / 2 ^ k : Nat) : Int) := by
  unfold sShr
  have hm : min ((k : Int)).toNat IntKind.u32.bits = k := by simp only [Int.toNat_natCast]; show min k 32 = k; omega
  rw [hm, Int.fdiv_eq_ediv_of_nonneg _ (by exact_mod_cast Nat.zero_le _)]
  norm_cast

theorem w_u8_nat (n : Nat) : w .u8 (n : Int) = ((UInt8.ofNat n).toNat : Int) := by
  rw [w_u8_mod, UInt8.toNat_ofNat']; norm_cast

theorem four_cells (n : Nat) : [Value.int .u8 (w .u8 (sShr .u32 (n : Int) 24)), .int .u8 (w .u8 (sShr .u32 (n : Int) 16)), .int .u8 (w .u8 (sShr .u32 (n : Int) 8)), .int .u8 (w .u8 (n : Int))] = bytesV (four n) := by
  have h1 : sShr .u32 (n : Int) 24 = ((n / 16777216 : Nat) : Int) := sShr_nat n 24 (by omega)
  have h2 : sShr .u32 (n : Int) 16 = ((n / 65536 : Nat) : Int) := sShr_nat n 16 (by omega)
  have h3 : sShr .u32 (n : Int) 8 = ((n / 256 : Nat) : Int) := sShr_nat n 8 (by omega)
  rw [h1, h2, h3, w_u8_nat, w_u8_nat, w_u8_nat, w_u8_nat]
  rfl

theorem bOr_nat (x y : Nat) (hx : x < 4294967296) (hy : y < 4294967296) : bOr .u32 (x : Int) (y : Int) = ((x ||| y : Nat) : Int) := by
  show IntKind.u32.wrap (((BitVec.ofInt 32 (x : Int) ||| BitVec.ofInt 32 (y : Int)).toNat : Nat) : Int) = _
  have h1 : (BitVec.ofInt 32 (x : Int)) = BitVec.ofNat 32 x := rfl
  have h2 : (BitVec.ofInt 32 (y : Int)) = BitVec.ofNat 32 y := rfl
  rw [h1, h2, ← BitVec.ofNat_or]
  have h3 : x ||| y < 2 ^ 32 := Nat.or_lt_two_pow hx hy
  have h4 : (BitVec.ofNat 32 (x ||| y)).toNat = x ||| y := by rw [BitVec.toNat_ofNat, Nat.mod_eq_of_lt h3]
  exact (congrArg (fun k : Nat => IntKind.u32.wrap (k : Int)) h4).trans (w_u32 (by omega) (by omega))

theorem sShl_nat (x k : Nat) (hk : k ≤ 32) (h : x * 2 ^ k < 4294967296) : sShl .u32 (w .u32 (x : Int)) (k : Int) = ((x * 2 ^ k : Nat) : Int) := by
  have hx : x < 4294967296 := Nat.lt_of_le_of_lt (Nat.le_mul_of_pos_right _ (Nat.two_pow_pos k)) h
  rw [w_u32 (by omega) (by omega)]
  unfold sShl
  have hm : min ((k : Int)).toNat IntKind.u32.bits = k := by simp only [Int.toNat_natCast]; show min k 32 = k; omega
  rw [hm]
  have : (x : Int) * 2 ^ k = ((x * 2 ^ k : Nat) : Int) := by norm_cast
  rw [this]
  exact w_u32 (by omega) (by omega)

theorem or_add (a b k : Nat) (h : b < 2 ^ k) : (a * 2 ^ k) ||| b = a * 2 ^ k + b := by
  rw [← Nat.shiftLeft_eq, Nat.shiftLeft_add_eq_or_of_lt h]

theorem num4_or (a b c d : UInt8) : bOr .u32 (bOr .u32 (bOr .u32 (sShl .u32 (w .u32 (a.toNat : Int)) 24) (sShl .u32 (w .u32 (b.toNat : Int)) 16)) (sShl .u32 (w .u32 (c.toNat : Int)) 8)) (w .u32 (d.toNat : Int)) = (num4 a b c d : Int) := by
  have ha := u8_lt a; have hb := u8_lt b; have hc := u8_lt c; have hd := u8_lt d
  have h1 := sShl_nat a.toNat 24 (by omega) (by omega)
  have h2 := sShl_nat b.toNat 16 (by omega) (by omega)
  have h3 := sShl_nat c.toNat 8 (by omega) (by omega)
  have h4 : w .u32 (d.toNat : Int) = (d.toNat : Int) := w_u32 (by omega) (by omega)
  rw [show (24 : Int) = ((24 : Nat) : Int) from rfl, show (16 : Int) = ((16 : Nat) : Int) from rfl, show (8 : Int) = ((8 : Nat) : Int) from rfl, h1, h2, h3, h4]
  have e1 : a.toNat * 2 ^ 24 ||| b.toNat * 2 ^ 16 = a.toNat * 2 ^ 24 + b.toNat * 2 ^ 16 := or_add _ _ _ (by omega)
  have e2 : (a.toNat * 2 ^ 24 + b.toNat * 2 ^ 16) ||| c.toNat * 2 ^ 8 = a.toNat * 2 ^ 24 + b.toNat * 2 ^ 16 + c.toNat * 2 ^ 8 := by
    have := or_add (a.toNat * 2 ^ 8 + b.toNat) (c.toNat * 2 ^ 8) 16 (by omega)
    rw [show (a.toNat * 2 ^ 8 + b.toNat) * 2 ^ 16 = a.toNat * 2 ^ 24 + b.toNat * 2 ^ 16 by omega] at this
    exact this
  have e3 : (a.toNat * 2 ^ 24 + b.toNat * 2 ^ 16 + c.toNat * 2 ^ 8) ||| d.toNat = a.toNat * 2 ^ 24 + b.toNat * 2 ^ 16 + c.toNat * 2 ^ 8 + d.toNat := by
    have := or_add (a.toNat * 2 ^ 16 + b.toNat * 2 ^ 8 + c.toNat) d.toNat 8 (by omega)
    rw [show (a.toNat * 2 ^ 16 + b.toNat * 2 ^ 8 + c.toNat) * 2 ^ 8 = a.toNat * 2 ^ 24 + b.toNat * 2 ^ 16 + c.toNat * 2 ^ 8 by omega] at this
    exact this
  rw [bOr_nat _ _ (by omega) (by omega), e1, bOr_nat _ _ (by omega) (by omega), e2, bOr_nat _ _ (by omega) (by omega), e3]
  rfl

/-- the number at a text's head -/
def numS (s : Str) : Nat := num4 (s.getD 0 0) (s.getD 1 0) (s.getD 2 0) (s.getD 3 0)
theorem numS_lt (s : Str) : numS s < 4294967296 := num4_lt ..
theorem numS_four {n : Nat} (h : n < 4294967296) (t : Str) : numS (four n ++ t) = n := num4_four h
theorem numS_take {s : Str} {k : Nat} (hk : 4 ≤ k) : numS (s.take k) = numS s := by
  have h : ∀ i, i < 4 → (s.take k).getD i 0 = s.getD i 0 := fun i hi => by simp only [List.getD, List.getElem?_take, if_pos (show i < k by omega)]
  simp only [numS, h 0 (by omega), h 1 (by omega), h 2 (by omega), h 3 (by omega)]
theorem numS_append {s t : Str} (hs : 4 ≤ s.length) : numS (s ++ t) = numS s := by
  have := numS_take (s := s ++ t) hs
  rw [List.take_left'  rfl] at this
  exact this.symm

section
variable {C : Ctx} {H : Heap}

theorem getD_some {s : Str} {i : Nat} (h : i < s.length) : s[i]? = some (s.getD i 0) := by simp [List.getD, h]

theorem ref30_number_ok {s : Str} {K : Int → Heap → Prop} (hs : 4 ≤ s.length) (k : K (numS s : Int) H) : c_ref30_number C s K H := by
  apply ad_ref30_number
  unfold sh_ref30_number
  refine ⟨s.getD 0 0, by omega, getD_some (by omega), s.getD 1 0, by omega, getD_some (by omega), s.getD 2 0, by omega, getD_some (by omega), s.getD 3 0, by omega, getD_some (by omega), ?_⟩
  dsimp only
  rw [num4_or]; exact k

theorem bytes_at {s : Str} {i : Nat} (h : i < s.length) : (bytesV s)[i]? = some (.int .u8 ((s.getD i 0).toNat : Int)) := by rw [bytesV_get, getD_some h]; rfl

theorem frame_get_ok {b : Sl} {s : Str} {K : Int → Heap → Prop} (hb : rdsl H b (bytesV s)) (hl : 4 ≤ b.len) (hs : 4 ≤ s.length) (k : K (numS s : Int) H) : c_frame_get C b K H := by
  apply ad_frame_get
  unfold sh_frame_get
  refine ix_ldI hb (j := 0) rfl (by omega) (bytes_at (by omega)) ?_
  refine ix_ldI hb (j := 1) rfl (by omega) (bytes_at (by omega)) ?_
  refine ix_ldI hb (j := 2) rfl (by omega) (bytes_at (by omega)) ?_
  refine ix_ldI hb (j := 3) rfl (by omega) (bytes_at (by omega)) ?_
  rw [num4_or]; exact k

theorem ref30_four_ok {n : Nat} {K : Str → Heap → Prop} (k : K (four n) H) : c_ref30_four C (n : Int) K H := by
  apply c_ref30_four.gh
  apply ad_ref30_four
  unfold sh_ref30_four
  intro b hb
  rw [four_cells]
  refine ⟨four n, rfl, .inr ⟨rfl, (b, 0), rfl, rds_put_new⟩, H, Gh.le (Heap.le_put hb), k⟩

theorem frame_put_ok {H0 : Heap} {b : Sl} {s : Str} {n : Nat} {K : Sl → Heap → Prop} (h : OwnF H0 H 1 b (bytesV s)) (hl : b.len + 4 ≤ 140737488355328) (k : ∀ r H2, OwnF H0 H2 1 r (bytesV (s ++ four n)) → r.len = b.len + 4 → K r H2) : c_frame_put C b (n : Int) K H := by
  apply ad_frame_put
  unfold sh_frame_put
  rw [four_cells]
  refine apd_ownF h rfl (by omega) (by omega) fun r H2 ho hr => k r H2 ?_ hr
  rw [bytesV_append]; exact ho

/-- a body's frame -/
def frameOf (s : Str) : Str := four s.length ++ s ++ four (crcB s).toNat

theorem ref30_Write_ok {s : Str} {K : Str → Int → Heap → Prop} (hl : s.length ≤ 65536) (k : K (frameOf s) 0 H) : c_ref30_Write C s K H := by
  apply ad_ref30_Write
  unfold sh_ref30_Write
  refine ift_neg (by simp; omega) ?_
  rw [w_u32 (by omega) (by omega)]
  refine ref30_four_ok ⟨by simp [four, catOk]; omega, ref30_Sum_ok (by omega) ?_⟩
  refine ref30_four_ok ⟨by simp [four, catOk]; omega, k⟩

theorem ref30_Write_big {s : Str} {K : Str → Int → Heap → Prop} (hl : 65536 < s.length) (k : K [] 40 H) : c_ref30_Write C s K H := by
  apply ad_ref30_Write
  unfold sh_ref30_Write
  exact ift_pos (by simp; omega) k

theorem frame_Write_big {s : Str} {K : Str → Int → Heap → Prop} (hl : 65536 < s.length) (k : K [] 40 H) : c_frame_Write C s K H := by
  apply ad_frame_Write
  unfold sh_frame_Write
  exact ift_pos (by simp; omega) k

theorem frame_Write_ok {s : Str} {K : Str → Int → Heap → Prop} (hl : s.length ≤ 65536) (k : K (frameOf s) 0 H) : c_frame_Write C s K H := by
  apply c_frame_Write.gh
  apply ad_frame_Write
  unfold sh_frame_Write
  refine ift_neg (by simp; omega) ?_
  rw [w_u32 (by omega) (by omega)]
  refine frame_put_ok (s := []) (OwnF.nil H 1) (by simp [Sl.nil]) fun r H2 h2 hr => ?_
  simp only [Sl.nil, List.nil_append] at hr h2
  refine apd_ownF h2 (by simp [bytesV]) (by omega) (by omega) fun r3 H3 h3 hr3 => ?_
  rw [← bytesV_append] at h3
  refine frame_Sum_ok (by omega) ?_
  refine frame_put_ok h3 (by omega) fun r4 H4 h4 hr4 => ?_
  refine ⟨frameOf s, by simp [frameOf, four]; omega, h4.own.rdsl, H, Gh.le h4.le, k⟩
end
attribute [irreducible] numS
end Sx
