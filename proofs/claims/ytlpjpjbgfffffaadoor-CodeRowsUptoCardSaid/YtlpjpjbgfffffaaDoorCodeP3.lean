/-
  The reader of layer 3: what its methods tell.
-/
import Derived.Test.YtlpjpjbgfffffaaDoorCodeP2
set_option linter.unusedVariables false
set_option maxRecDepth 10000
namespace Sx
open Go Go.Proofs

/-- a reader: what is left, its turn, whether it failed -/
structure RS where
  s : Str
  t : UInt8
  f : Bool

def askR (ok : Bool) (r : RS) : RS := if ok then r else ⟨[], r.t, true⟩
def flipR (is : Bool) (r : RS) : RS := if is then ⟨r.s, r.t ^^^ 255, r.f⟩ else r
def nextR (r : RS) : UInt8 × RS :=
  if (askR (decide (0 < r.s.length)) r).f then (0, askR (decide (0 < r.s.length)) r) else (r.s.getD 0 0 ^^^ r.t, ⟨r.s.drop 1, r.t, r.f⟩)
def numL : Nat → Nat → Nat → RS → Nat × RS
  | 0, _, u, r => (u, r)
  | k + 1, i, u, r => numL k (i + 1) (u * 256 % 18446744073709551616 + (nextR r).1.toNat) (askR (decide (0 < i) || (nextR r).1 != 0) (nextR r).2)
def numberR (k most : Int) (r : RS) : Nat × RS :=
  if (askR (decide (0 ≤ k) && decide (k ≤ most)) r).f then (0, askR (decide (0 ≤ k) && decide (k ≤ most)) r) else numL k.toNat 0 0 (askR (decide (0 ≤ k) && decide (k ≤ most)) r)

structure Rdr (H : Heap) (b : Nat) (r : RS) : Prop where
  ok : ∃ sl : Sl, H b = some (true, .row [slv sl, .int .u8 (r.t.toNat : Int), .bool r.f]) ∧ sl.len = r.s.length ∧ sl.len ≤ sl.cap ∧ Im H sl (bytesV r.s)

theorem Rdr.le {A B : Heap} {b : Nat} {r : RS} (h : Rdr A b r) (hle : A.le B) : Rdr B b r := by
  obtain ⟨sl, h1, h2, h3, h4⟩ := h.ok
  exact ⟨sl, hle _ _ h1, h2, h3, h4.ext hle.ext⟩
theorem Rdr.off {H : Heap} {b : Nat} {r : RS} (h : Rdr H b r) {z : Nat} {s : Sl} {cs : List Value} (ho : Own H z s cs) (hne : ∀ p, s.p = some p → p.1 ≠ b) : Rdr (H.off s) b r := by
  obtain ⟨t, h1, h2, h3, h4⟩ := h.ok
  refine ⟨t, Heap.off_some h1 hne, h2, h3, ?_⟩
  rcases h4 with h4 | ⟨hx, bb, o, c, hp, hb, hc⟩
  · exact .inl h4
  · refine .inr ⟨hx, bb, o, c, hp, Heap.off_some hb fun p hp e => ?_, hc⟩
    obtain ⟨g, hg⟩ := ho.mine hp
    rw [e, hb] at hg; cases hg
/-- its row written over -/
theorem Rdr.put {H : Heap} {b : Nat} {r : RS} (h : Rdr H b r) {sl : Sl} {s : Str} {t : UInt8} {f : Bool} (h1 : sl.len = s.length) (h2 : sl.len ≤ sl.cap) (h3 : Im H sl (bytesV s)) : Rdr (H.put b (.row [slv sl, .int .u8 (t.toNat : Int), .bool f])) b ⟨s, t, f⟩ := by
  obtain ⟨sl', h1', _⟩ := h.ok
  exact ⟨sl, Heap.put_same .., h1, h2, h3.ext (ext_put_own h1')⟩

section
variable {C : Ctx} {H : Heap}

theorem ask_ok {b : Nat} {r : RS} {ok : Bool} {K : Bool → Heap → Prop} (h : Rdr H b r) (k : ∀ H2, Heap.but b H H2 → Rdr H2 b (askR ok r) → K (!(askR ok r).f) H2) : c_code_Reader_ask C (some (b, 0)) ok K H := by
  obtain ⟨sl, h1, h2, h3, h4⟩ := h.ok
  apply ad_code_Reader_ask
  unfold sh_code_Reader_ask
  refine ⟨fun _ H2 => Heap.but b H H2 ∧ Rdr H2 b (askR ok r), ?_, fun _ H2 h5 => ?_⟩
  · cases ok with
    | true => exact ift_neg rfl ⟨Heap.but.refl _ _, h⟩
    | false =>
      refine ift_pos rfl ⟨_, rfl, _, h1, by simp, _, rfl, _, Heap.put_same .., by simp, ?_⟩
      rw [Heap.put_put]
      exact ⟨Heap.but.put _ _ _ _, h.put (sl := Sl.nil) (s := []) rfl (Nat.le_refl _) (.inl rfl)⟩
  · obtain ⟨h5, h6⟩ := h5
    obtain ⟨sl', g1, g2, g3, g4⟩ := h6.ok
    exact ⟨_, rfl, (askR ok r).f, by rw [rd_row g1]; rfl, k H2 h5 h6⟩

theorem flip_ok {b : Nat} {r : RS} {is : Bool} {K : Heap → Prop} (h : Rdr H b r) (k : ∀ H2, Heap.but b H H2 → Rdr H2 b (flipR is r) → K H2) : c_code_Reader_flip C (some (b, 0)) is K H := by
  obtain ⟨sl, h1, h2, h3, h4⟩ := h.ok
  apply ad_code_Reader_flip
  unfold sh_code_Reader_flip
  cases is with
  | false => exact ift_neg rfl (k H (Heap.but.refl _ _) h)
  | true =>
    refine ift_pos rfl ⟨_, rfl, (r.t.toNat : Int), by rw [rd_row h1]; rfl, _, rfl, _, h1, by simp, ?_⟩
    have e : bXor .u8 (r.t.toNat : Int) 255 = ((r.t ^^^ 255).toNat : Int) := xor_u8 r.t 255
    rw [e]
    exact k _ (Heap.but.put _ _ _ _) (h.put h2 h3 h4)

theorem next_ok {b : Nat} {r : RS} {K : Int → Heap → Prop} (h : Rdr H b r) (k : ∀ H2, Heap.but b H H2 → Rdr H2 b (nextR r).2 → K ((nextR r).1.toNat : Int) H2) : c_code_Reader_next C (some (b, 0)) K H := by
  obtain ⟨sl, h1, h2, h3, h4⟩ := h.ok
  apply ad_code_Reader_next
  unfold sh_code_Reader_next
  refine ⟨_, rfl, sl, by rw [rd_row h1]; rfl, ?_⟩
  have e0 : (decide ((sl.len : Int) > 0)) = decide (0 < r.s.length) := by rw [h2]; simp
  dsimp only
  rw [e0]
  refine ask_ok h fun H2 hb2 hr2 => ?_
  refine ift.of (fun hc => ?_) (fun hc => ?_)
  · have hf : (askR (decide (0 < r.s.length)) r).f = true := by simpa using hc
    have e1 : nextR r = (0, askR (decide (0 < r.s.length)) r) := by unfold nextR; rw [if_pos hf]
    rw [e1] at k
    exact k H2 hb2 hr2
  · have hf : (askR (decide (0 < r.s.length)) r).f = false := by simpa using hc
    have e1 : nextR r = (r.s.getD 0 0 ^^^ r.t, ⟨r.s.drop 1, r.t, r.f⟩) := by unfold nextR; rw [if_neg (by rw [hf]; decide)]
    rw [e1] at k
    have hpos : 0 < r.s.length := by
      by_cases hh : 0 < r.s.length
      · exact hh
      · unfold askR at hf; rw [decide_eq_false hh] at hf; simp at hf
    have e2 : askR (decide (0 < r.s.length)) r = r := by unfold askR; rw [decide_eq_true hpos]; rfl
    rw [e2] at hr2
    obtain ⟨sl, h1, h2, h3, h4⟩ := hr2.ok
    refine ⟨_, rfl, sl, by rw [rd_row h1]; rfl, ?_⟩
    refine ix_ldI h4.rdsl (j := 0) rfl (by omega) (bytes_at hpos) ?_
    refine ⟨_, rfl, (r.t.toNat : Int), by rw [rd_row h1]; rfl, _, rfl, sl, by rw [rd_row h1]; rfl, by omega, by omega, by omega, by omega, _, rfl, _, rfl, _, h1, by simp, ?_⟩
    dsimp only
    rw [xor_u8]
    have him := Im.slice (H := H2) h4 (lo := 1) (hi := (sl.len : Int)) (mx := (sl.cap : Int)) (z := 1) (by omega) (by omega) (by omega)
    have e3 : ((bytesV r.s).drop ((1 : Int).toNat * 1)).take (((sl.len : Int) - 1).toNat * 1) = bytesV (r.s.drop 1) := by
      rw [show ((sl.len : Int) - 1).toNat * 1 = (r.s.drop 1).length by simp; omega, show (1 : Int).toNat * 1 = 1 by omega, bytesV_drop, bytesV_take, List.take_length]
    rw [e3] at him
    exact k _ (hb2.trans (Heap.but.put _ _ _ _)) (hr2.put (by simp; omega) (by simp; omega) him)

theorem step_u64 {u : Nat} {c : UInt8} (hu : u < 18446744073709551616) : bOr .u64 (sShl .u64 (u : Int) 8) (w .u64 (c.toNat : Int)) = ((u * 256 % 18446744073709551616 + c.toNat : Nat) : Int) := by
  have hc := u8_lt c
  have e1 : sShl .u64 (u : Int) 8 = ((u * 256 % 18446744073709551616 : Nat) : Int) := by
    unfold sShl
    have hm : min ((8 : Int)).toNat IntKind.u64.bits = 8 := rfl
    rw [hm]
    have e2 : (u : Int) * 2 ^ 8 = ((u * 256 : Nat) : Int) := by
      have h8 : (2 : Int) ^ 8 = 256 := by decide
      rw [h8]; omega
    rw [e2]
    have := w_u64_mod ((u * 256 : Nat) : Int)
    unfold w at this
    rw [this]; omega
  rw [e1, w_u64 (by omega) (by omega)]
  have hlt : u * 256 % 18446744073709551616 < 18446744073709551616 := Nat.mod_lt _ (by omega)
  show IntKind.u64.wrap (((BitVec.ofInt 64 ((u * 256 % 18446744073709551616 : Nat) : Int) ||| BitVec.ofInt 64 (c.toNat : Int) : BitVec 64).toNat : Nat) : Int) = _
  have h1 : (BitVec.ofInt 64 ((u * 256 % 18446744073709551616 : Nat) : Int)) = BitVec.ofNat 64 (u * 256 % 18446744073709551616) := rfl
  have h2 : (BitVec.ofInt 64 (c.toNat : Int)) = BitVec.ofNat 64 c.toNat := rfl
  rw [h1, h2, ← BitVec.ofNat_or]
  obtain ⟨v, hv⟩ : ∃ v, u * 256 % 18446744073709551616 = v * 2 ^ 8 := ⟨u % 72057594037927936, by omega⟩
  rw [hv] at hlt ⊢
  have e3 : v * 2 ^ 8 ||| c.toNat = v * 2 ^ 8 + c.toNat := by rw [← Nat.shiftLeft_eq, Nat.shiftLeft_add_eq_or_of_lt (by omega)]
  rw [e3, BitVec.toNat_ofNat, Nat.mod_eq_of_lt (by omega)]
  exact w_u64 (by omega) (by omega)

theorem numL_ok {b : Nat} : ∀ (k i u : Nat) {r : RS}, numL k i u r = numL k i u r := fun _ _ _ _ => rfl

theorem number_ok {b : Nat} {r : RS} {kk most : Int} {K : Int → Heap → Prop} (hk64 : kk ≤ 1000000) (h : Rdr H b r) (k : ∀ H2, Heap.but b H H2 → Rdr H2 b (numberR kk most r).2 → (numberR kk most r).1 < 18446744073709551616 → K ((numberR kk most r).1 : Int) H2) : c_code_Reader_number C (some (b, 0)) kk most K H := by
  apply ad_code_Reader_number
  unfold sh_code_Reader_number
  have e0 : (decide (kk ≥ 0) && decide (kk ≤ most)) = (decide (0 ≤ kk) && decide (kk ≤ most)) := rfl
  rw [e0]
  refine ask_ok h fun H2 hb2 hr2 => ?_
  refine ift.of (fun hc => ?_) (fun hc => ?_)
  · have hf : (askR (decide (0 ≤ kk) && decide (kk ≤ most)) r).f = true := by simpa using hc
    have e1 : numberR kk most r = (0, askR (decide (0 ≤ kk) && decide (kk ≤ most)) r) := by unfold numberR; rw [if_pos hf]
    rw [e1] at k
    exact k H2 hb2 hr2 (show 0 < 18446744073709551616 by omega)
  · have hf : (askR (decide (0 ≤ kk) && decide (kk ≤ most)) r).f = false := by simpa using hc
    have e1 : numberR kk most r = numL kk.toNat 0 0 (askR (decide (0 ≤ kk) && decide (kk ≤ most)) r) := by unfold numberR; rw [if_neg (by rw [hf]; decide)]
    rw [e1] at k
    generalize askR (decide (0 ≤ kk) && decide (kk ≤ most)) r = r0 at *
    refine ⟨fun x H' => ∃ i u : Nat, x = ((u : Int), (i : Int)) ∧ u < 18446744073709551616 ∧ i ≤ kk.toNat ∧ Heap.but b H H' ∧ ∃ r', Rdr H' b r' ∧ numL (kk.toNat - i) i u r' = numL kk.toNat 0 0 r0, fun x _ => kk.toNat - x.2.toNat, ⟨0, 0, rfl, by omega, Nat.zero_le _, hb2, r0, hr2, rfl⟩, ?_⟩
    rintro x H' ⟨i, u, rfl, hu, hi, hb3, r', hr3, he⟩
    refine ift.of (fun hc => ?_) (fun hc => ?_)
    · have hlt : i < kk.toNat := by have := of_decide_eq_true hc; dsimp only at this; omega
      refine next_ok hr3 fun H4 hb4 hr4 => ?_
      have e5 : (decide ((i : Int) > 0) || (((nextR r').1.toNat : Int) != 0)) = (decide (0 < i) || (nextR r').1 != 0) := by
        have a1 : (decide ((i : Int) > 0)) = decide (0 < i) := by simp
        have a2 : (((nextR r').1.toNat : Int) != 0) = ((nextR r').1 != 0) := by
          rw [Bool.eq_iff_iff]; simp only [bne_iff_ne, ne_eq]
          constructor
          · intro hh e; rw [e] at hh; simp at hh
          · intro hh e; exact hh (UInt8.toNat_inj.1 (by have h0 : (0 : UInt8).toNat = 0 := rfl; omega))
        rw [a1, a2]
      dsimp only
      rw [e5]
      refine ask_ok hr4 fun H5 hb5 hr5 => ?_
      rw [step_u64 hu, w_i64 (by omega) (by omega)]
      have hs : numL (kk.toNat - i) i u r' = numL (kk.toNat - (i + 1)) (i + 1) (u * 256 % 18446744073709551616 + (nextR r').1.toNat) (askR (decide (0 < i) || (nextR r').1 != 0) (nextR r').2) := by
        rw [show kk.toNat - i = (kk.toNat - (i + 1)) + 1 by omega]; rfl
      have hc8 := u8_lt (nextR r').1
      refine ⟨⟨i + 1, _, rfl, by omega, by omega, (hb3.trans hb4).trans hb5, _, hr5, by rw [← hs]; exact he⟩, by first | omega | (dsimp only; omega)⟩
    · have hie : i = kk.toNat := by have := of_decide_eq_false hc; omega
      rw [hie, Nat.sub_self] at he
      have he' : (u, r') = numL kk.toNat 0 0 r0 := he
      rw [← he'] at k
      exact k H' hb3 hr3 hu
end
end Sx
