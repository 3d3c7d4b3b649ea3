/-
  The sums of layer 30: what the two packages' functions answer.
-/
import Derived.Test.YtkmedfjmpcfgaaaFrameSh
set_option linter.unusedVariables false
set_option maxRecDepth 10000
namespace Sx
open Go Go.Proofs

def it {α : Type} (f : α → α) : Nat → α → α
  | 0, x => x
  | k + 1, x => it f k (f x)
theorem it_succ {α : Type} (f : α → α) : ∀ (k : Nat) (x : α), it f (k + 1) x = f (it f k x)
  | 0, _ => rfl
  | k + 1, x => it_succ f k (f x)

def turnB (n : BitVec 32) : BitVec 32 := if n &&& 1#32 = 1#32 then (n >>> 1) ^^^ 3988292384#32 else n >>> 1
def byteB (n : BitVec 32) (c : UInt8) : BitVec 32 := it turnB 8 (n ^^^ c.toBitVec.setWidth 32)
def regB (s : Str) : BitVec 32 := s.foldl byteB 4294967295#32
def crcB (s : Str) : BitVec 32 := 4294967295#32 ^^^ regB s

def iB (n : BitVec 32) : Int := (n.toNat : Int)
theorem iB_inj {a b : BitVec 32} (h : iB a = iB b) : a = b := BitVec.eq_of_toNat_eq (Int.ofNat.inj h)
theorem iB_lo (n : BitVec 32) : 0 ≤ iB n := Int.natCast_nonneg _
theorem iB_hi (n : BitVec 32) : iB n ≤ 4294967295 := by have := n.isLt; unfold iB; omega
theorem ofInt_iB (n : BitVec 32) : BitVec.ofInt 32 (iB n) = n := by simp [iB]
theorem wrap_iB (n : BitVec 32) : IntKind.u32.wrap ((n.toNat : Nat) : Int) = iB n := w_u32 (iB_lo n) (iB_hi n)
theorem bXor_iB (a b : BitVec 32) : bXor .u32 (iB a) (iB b) = iB (a ^^^ b) := by
  have h1 := ofInt_iB a; have h2 := ofInt_iB b
  unfold bXor
  simp only [IntKind.bits]
  rw [h1, h2]; exact wrap_iB _
theorem bAnd_iB (a b : BitVec 32) : bAnd .u32 (iB a) (iB b) = iB (a &&& b) := by
  have h1 := ofInt_iB a; have h2 := ofInt_iB b
  unfold bAnd
  simp only [IntKind.bits]
  rw [h1, h2]; exact wrap_iB _
theorem sShr_iB (a : BitVec 32) (k : Nat) (hk : k ≤ 32) : sShr .u32 (iB a) (k : Int) = iB (a >>> k) := by
  unfold sShr iB
  have hm : min ((k : Int)).toNat IntKind.u32.bits = k := by simp only [Int.toNat_natCast]; show min k 32 = k; omega
  rw [hm, BitVec.toNat_ushiftRight, Nat.shiftRight_eq_div_pow, Int.fdiv_eq_ediv_of_nonneg _ (by exact_mod_cast Nat.zero_le _)]
  norm_cast
theorem and_one_eq (n : BitVec 32) : ((bAnd .u32 (iB n) 1 : Int) == 1) = decide (n &&& 1#32 = 1#32) := by
  have : (1 : Int) = iB 1#32 := rfl
  rw [this, bAnd_iB]
  by_cases h : n &&& 1#32 = 1#32
  · simp [h]
  · have : iB (n &&& 1#32) ≠ iB 1#32 := fun e => h (iB_inj e)
    simp [h, this]
theorem turn_t {n : BitVec 32} (h : ((bAnd .u32 (iB n) 1 : Int) == 1) = true) : bXor .u32 (sShr .u32 (iB n) 1) 3988292384 = iB (turnB n) := by
  rw [and_one_eq, decide_eq_true_eq] at h
  have e : (3988292384 : Int) = iB 3988292384#32 := rfl
  have e2 : sShr .u32 (iB n) 1 = iB (n >>> 1) := sShr_iB n 1 (by omega)
  rw [e2, e, bXor_iB]; simp [turnB, h]
theorem turn_f {n : BitVec 32} (h : ((bAnd .u32 (iB n) 1 : Int) == 1) = false) : sShr .u32 (iB n) 1 = iB (turnB n) := by
  rw [and_one_eq, decide_eq_false_iff_not] at h
  have e2 : sShr .u32 (iB n) 1 = iB (n >>> 1) := sShr_iB n 1 (by omega)
  rw [e2]; simp [turnB, h]
theorem xor_byte (n : BitVec 32) (c : UInt8) : bXor .u32 (iB n) (w .u32 (c.toNat : Int)) = iB (n ^^^ c.toBitVec.setWidth 32) := by
  have h := u8_lt c
  have e : w .u32 (c.toNat : Int) = iB (c.toBitVec.setWidth 32) := by
    rw [w_u32 (by omega) (by omega)]
    simp only [iB, BitVec.toNat_setWidth]
    congr 1
    rw [Nat.mod_eq_of_lt]
    · rfl
    · show c.toNat < 2 ^ 32; omega
  rw [e, bXor_iB]

theorem foldl_take_succ {α β : Type} (f : β → α → β) (x : β) (s : List α) (k : Nat) (c : α) (h : s[k]? = some c) : (s.take (k + 1)).foldl f x = f ((s.take k).foldl f x) c := by
  rw [List.take_add_one, h, Option.toList_some, List.foldl_append]
  rfl

theorem frame_Sum_1_ok {C : Ctx} {b : Nat} {n : BitVec 32} {K : Heap → Prop} {H : Heap} (hb : H b = some (true, .row [.int .u32 (iB n)])) (k : K (H.put b (.row [.int .u32 (iB (turnB n))]))) : c_frame_Sum_1 C (b, 0) K H := by
  apply ad_frame_Sum_1
  unfold sh_frame_Sum_1
  refine ⟨iB n, by rw [rd_row hb]; rfl, iB n, by rw [rd_row hb]; rfl, _, hb, by simp, ?_⟩
  refine ift.of (fun h => ?_) (fun h => ?_)
  · refine ⟨sShr .u32 (iB n) 1, by simp [rd_same], _, Heap.put_same .., by simp, ?_⟩
    rw [Heap.put_put, turn_t h]
    exact k
  · rw [turn_f h]; exact k

theorem frame_Sum_ok {C : Ctx} {s : Str} {K : Int → Heap → Prop} {H : Heap} (hl : s.length ≤ 4611686018427387904) (k : K (iB (crcB s)) H) : c_frame_Sum C s K H := by
  apply c_frame_Sum.gh
  apply ad_frame_Sum
  unfold sh_frame_Sum
  intro b hb
  refine ⟨_, Heap.put_same .., by simp, ?_⟩
  rw [Heap.put_put]
  refine ⟨fun x H' => ∃ k : Nat, x = k ∧ k ≤ s.length ∧ H' = H.put b (.row [.int .u32 (iB ((s.take k).foldl byteB 4294967295#32))]), fun x _ => s.length - x.toNat, ⟨0, rfl, Nat.zero_le _, rfl⟩, ?_⟩
  rintro x H' ⟨i, rfl, hi, rfl⟩
  refine ift.of (fun h => ?_) (fun h => ?_)
  · have hlt : i < s.length := by simpa using h
    refine ⟨_, Heap.le.refl _, iB ((s.take i).foldl byteB 4294967295#32), by simp [rd_same], s[i], by omega, by simp [hlt], _, Heap.put_same .., by simp, ?_⟩
    rw [Heap.put_put, xor_byte]
    refine ⟨fun x H' => ∃ k : Nat, x = k ∧ k ≤ 8 ∧ H' = H.put b (.row [.int .u32 (iB (it turnB k ((s.take i).foldl byteB 4294967295#32 ^^^ s[i].toBitVec.setWidth 32)))]), fun x _ => 8 - x.toNat, ⟨0, rfl, Nat.zero_le _, rfl⟩, ?_⟩
    rintro x H' ⟨j, rfl, hj, rfl⟩
    refine ift.of (fun h => ?_) (fun h => ?_)
    · have hlt : j < 8 := by simp at h; omega
      refine frame_Sum_1_ok (Heap.put_same ..) ?_
      rw [Heap.put_put, ← it_succ turnB]
      rw [w_i64 (by omega) (by omega)]
      exact ⟨⟨j + 1, by omega, by omega, rfl⟩, by dsimp only; omega⟩
    · have hj8 : j = 8 := by simp at h; omega
      subst hj8
      rw [w_i64 (by omega) (by omega)]
      refine ⟨⟨i + 1, by omega, by omega, ?_⟩, by dsimp only; omega⟩
      rw [foldl_take_succ byteB _ s i s[i] (by simp [hlt])]
      rfl
  · have hlt : i = s.length := by simp at h; omega
    subst hlt
    refine ⟨iB (regB s), by simp [rd_same, regB], H, Gh.le (Heap.le_put hb), ?_⟩
    have e : (4294967295 : Int) = iB 4294967295#32 := rfl
    rw [e, bXor_iB]; exact k

theorem ref30_Sum_ok {C : Ctx} {s : Str} {K : Int → Heap → Prop} {H : Heap} (hl : s.length ≤ 4611686018427387904) (k : K (iB (crcB s)) H) : c_ref30_Sum C s K H := by
  apply ad_ref30_Sum
  unfold sh_ref30_Sum
  refine ⟨fun x H' => ∃ k : Nat, x = (iB ((s.take k).foldl byteB 4294967295#32), (k : Int)) ∧ k ≤ s.length ∧ H = H', fun x _ => s.length - x.2.toNat, ⟨0, rfl, Nat.zero_le _, rfl⟩, ?_⟩
  rintro x _ ⟨i, rfl, hi, rfl⟩
  refine ift.of (fun h => ?_) (fun h => ?_)
  · have hlt : i < s.length := by simpa using h
    refine ⟨s[i], by simp, by simp [hlt], ?_⟩
    simp only
    rw [xor_byte]
    refine ⟨fun x H' => ∃ k : Nat, x = (iB (it turnB k ((s.take i).foldl byteB 4294967295#32 ^^^ s[i].toBitVec.setWidth 32)), (k : Int)) ∧ k ≤ 8 ∧ H = H', fun x _ => 8 - x.2.toNat, ⟨0, rfl, Nat.zero_le _, rfl⟩, ?_⟩
    rintro x _ ⟨j, rfl, hj, rfl⟩
    refine ift.of (fun h => ?_) (fun h => ?_)
    · have hlt : j < 8 := by simp at h; omega
      refine ⟨fun y H'' => y = iB (it turnB (j + 1) ((s.take i).foldl byteB 4294967295#32 ^^^ s[i].toBitVec.setWidth 32)) ∧ H = H'', ?_, ?_⟩
      · rw [it_succ]
        refine ift.of (fun h => ⟨?_, rfl⟩) (fun h => ⟨?_, rfl⟩)
        · exact turn_t h
        · exact turn_f h
      · rintro y _ ⟨rfl, rfl⟩
        simp only
        rw [w_i64 (by omega) (by omega)]
        refine ⟨⟨j + 1, ?_, by omega, trivial⟩, by omega⟩
        simp
    · have hj8 : j = 8 := by simp at h; omega
      subst hj8
      simp only
      rw [w_i64 (by omega) (by omega)]
      refine ⟨⟨i + 1, ?_, by omega, trivial⟩, by omega⟩
      rw [foldl_take_succ byteB _ s i s[i] (by simp [hlt])]
      simp [byteB]
  · have hlt : i = s.length := by simp at h; omega
    subst hlt
    have e : (4294967295 : Int) = iB 4294967295#32 := rfl
    simp only [List.take_length]
    rw [e, bXor_iB]; exact k
attribute [irreducible] crcB
end Sx
