/-
  The law FrameNames over the ghost heap.
-/
import Derived.Test.YtkmedfjmpcfgaaaFrameP9
set_option linter.unusedVariables false
set_option maxRecDepth 10000
namespace Sx
open Go Go.Proofs

def zs (n : Nat) : Str := List.replicate n 0
theorem zs_len (n : Nat) : (zs n).length = n := List.length_replicate ..
theorem zeros_bytes : ∀ n : Nat, zeros [Value.int .u8 0] n = bytesV (zs n)
  | 0 => rfl
  | n + 1 => by rw [zeros, zeros_bytes n]; rfl
attribute [irreducible] zs

theorem num_n1 : numS [0, 1, 0, 1] = 65537 := by decide +kernel
theorem num_n2 : numS [0, 1, 0, 0] = 65536 := by decide +kernel
theorem num_n3 : numS [0, 0, 0, 0, 0, 0, 0, 1] = 0 := by decide +kernel
theorem num_n4 : numS [0, 0, 0, 1] = 1 := by decide +kernel
theorem crc_nil : crcB [] = 0#32 := by decide +kernel
theorem crc_19 : crcB [49, 50, 51, 52, 53, 54, 55, 56, 57] = 3421780262#32 := by decide +kernel
theorem cut_n1 : cut ([] ++ [0, 1, 0, 1]) = ([], [], 40) := cut_large (s := [0, 1, 0, 1]) (by decide) (by rw [num_n1]; decide)
theorem cut_n2 : cut ([] ++ [0, 1, 0, 0]) = ([], [0, 1, 0, 0], 0) := cut_wait (s := [0, 1, 0, 0]) (by decide) (by rw [num_n2]; decide) (by rw [num_n2]; decide)
theorem cut_n3 : cut [0, 0, 0, 0, 0, 0, 0, 1] = ([], [], 90) := by
  have hb : bodyS [0, 0, 0, 0, 0, 0, 0, 1] = [] := by rw [bodyS_eq, num_n3]; rfl
  have hc : crcN [] = 0 := by unfold crcN; rw [crc_nil]; rfl
  refine cut_bad (by decide) (by rw [num_n3]; decide) (by rw [num_n3]; decide) ?_
  rw [hb, hc, num_n3]
  show numS [0, 0, 0, 1] ≠ 0
  rw [num_n4]; decide
theorem cut_n4 {b : Str} (hb : b.length ≤ 65536) : cut ([] ++ (frameOf b ++ [0, 0, 0, 0, 0, 0, 0, 1])) = ([b], [], 90) := by
  rw [List.nil_append, cut_frame hb, cut_n3]

section
variable {C : Ctx} {H : Heap}

theorem Rd.buts {A B : Heap} {b k : Nat} {held : Str} {shut : Bool} {g : GO} (h : Rd A b held shut) (hb : Heap.but k A B) (hk : A k = some (true, g)) (hne : b ≠ k) : Rd B b held shut :=
  h.but hb hne (Heap.ext.of_but hb hk)
theorem Rd.row {b : Nat} {held : Str} {shut : Bool} (h : Rd H b held shut) : ∃ g, H b = some (true, g) := by
  obtain ⟨s, h1, _⟩ := h; exact ⟨_, h1⟩

theorem FrameNames_ok {K : Bool → Heap → Prop} (k : ∀ H2, K true H2) : c_law30_FrameNames C K H := by
  apply ad_law30_FrameNames
  unfold sh_law30_FrameNames
  refine frame_Feed_nil ?_
  refine frame_New_ok fun r H1 hr0 hle1 hrd1 => ?_
  intro b6 h6
  refine frame_Feed_ok (held := []) (c := [0, 1, 0, 1]) (hrd1.le (Heap.le_put h6)) (.inr ⟨rfl, _, rfl, rds_put_new⟩) rfl (by decide) fun o1 H3 hb3 hrd3 hown3 hfr3 => ?_
  rw [cut_n1] at hrd3 hown3 ⊢
  refine frame_Feed_shut hrd3 ?_
  have hhr := hrd3.row
  refine frame_New_ok fun q H4 hq0 hle4 hrd4 => ?_
  obtain ⟨g3, hg3⟩ := hhr
  have hrq : r ≠ q := ne_of_none hq0 hg3
  intro b16 h16
  obtain ⟨g4, hg4⟩ := (hrd4.le (Heap.le_put h16 (g := .row [.int .u8 0, .int .u8 1, .int .u8 0, .int .u8 0]) (m := true))).row
  refine frame_Feed_ok (held := []) (c := [0, 1, 0, 0]) (hrd4.le (Heap.le_put h16)) (.inr ⟨rfl, _, rfl, rds_put_new⟩) rfl (by decide) fun o2 H5 hb5 hrd5 hown5 hfr5 => ?_
  rw [cut_n2] at hrd5 hown5 ⊢
  have hrd3 := ((hrd3.le hle4).le (Heap.le_put h16)).buts hb5 hg4 hrq
  refine ⟨by omega, by omega, by omega, by omega, fun b21 h21 => ?_⟩
  have hrd3 := hrd3.le (Heap.le_put h21 (g := .row (zeros [.int .u8 0] (65537 : Int).toNat)) (m := true))
  have hrd5 := hrd5.le (Heap.le_put h21 (g := .row (zeros [.int .u8 0] (65537 : Int).toNat)) (m := true))
  refine ⟨zs 65537, by rw [zs_len]; rfl, .inr ⟨rfl, (b21, 0), rfl, by rw [← zeros_bytes]; exact rds_put_new⟩, ?_⟩
  refine frame_Write_big (by rw [zs_len]; omega) ?_
  refine ⟨by omega, by omega, by omega, by omega, fun b29 h29 => ?_⟩
  have hrd3 := hrd3.le (Heap.le_put h29 (g := .row (zeros [.int .u8 0] (65536 : Int).toNat)) (m := true))
  have hrd5 := hrd5.le (Heap.le_put h29 (g := .row (zeros [.int .u8 0] (65536 : Int).toNat)) (m := true))
  have hzl : (zs 65536).length = 65536 := zs_len _
  refine ⟨zs 65536, by rw [zs_len]; rfl, .inr ⟨rfl, (b29, 0), rfl, by rw [← zeros_bytes]; exact rds_put_new⟩, ?_⟩
  generalize zs 65536 = z at *
  refine frame_Write_ok (by omega) ?_
  have hfl := frameOf_len z
  refine frame_New_ok fun x H7 hx0 hle7 hrd7 => ?_
  have hrx := (hrd3.row)
  have hqx := (hrd5.row)
  obtain ⟨_, hrx⟩ := hrx
  obtain ⟨_, hqx⟩ := hqx
  have hrx : r ≠ x := ne_of_none hx0 hrx
  have hqx : q ≠ x := ne_of_none hx0 hqx
  refine ⟨by unfold catOk; rw [hfl]; simp; omega, s2b_ok fun b cap H8 hn8 hH8 hc8 hr8 => ?_⟩
  have hle8 : H7.le H8 := by rw [hH8]; exact Heap.le_put hn8
  obtain ⟨g7, hg7⟩ := (hrd7.le hle8).row
  have hrd3 := (hrd3.le hle7).le hle8
  have hrd5 := (hrd5.le hle7).le hle8
  refine frame_Feed_ok (held := []) (hrd7.le hle8) hr8 rfl (by rw [List.nil_append, List.length_append, hfl, hzl]; decide) fun o3 H9 hb9 hrd9 hown9 hfr9 => ?_
  rw [cut_n4 (by omega)] at hrd9 hown9 ⊢
  have hrd3 := hrd3.buts hb9 hg7 hrx
  have hrd5 := hrd5.buts hb9 hg7 hqx
  have hl3 : o3.len = 1 := by have := hown9.1; simpa using this.symm
  apply jn.inl
  refine ift_pos rfl (frame_Held_nil ?_)
  apply jn.inl
  refine ift_pos rfl (frame_Shut_nil ?_)
  apply jn.inl
  refine ift_pos rfl (frame_Shut_ok hrd3 ?_)
  apply jn.inl
  refine ift_pos rfl (frame_Held_ok hrd3 ?_)
  apply jn.inl
  refine ift_pos rfl (frame_Held_ok hrd5 ?_)
  apply jn.inl
  refine ift_pos (by rw [hl3]; rfl) (ix_ldS (j := 0) hown9.rdsl rfl (by omega) rfl ?_)
  apply jn.inl
  refine ift_pos (by rw [hzl]; rfl) (frame_Shut_ok hrd9 ?_)
  apply jn.inl
  refine ift_pos rfl (frame_Sum_ok (by decide) ?_)
  apply jn.inl
  refine ift_pos (by rw [crc_19]; rfl) (frame_Sum_ok (by decide) ?_)
  apply jn.inl
  refine ift_pos (by rw [crc_nil]; rfl) ?_
  exact awake_ok (k _)
end
end Sx
