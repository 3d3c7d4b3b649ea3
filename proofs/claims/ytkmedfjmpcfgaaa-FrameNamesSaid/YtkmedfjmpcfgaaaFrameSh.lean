/-
  Made by program (wip/gen/gen.py): the shallow forms of the functions, and that each implies its contract.
-/
import Derived.Test.YtkmedfjmpcfgaaaSxUser
import Derived.Test.YtkmedfjmpcfgaaaProg
set_option linter.unusedVariables false
set_option maxRecDepth 100000
namespace Sx
open Go Go.Proofs

structure T_ref30_Reader where
  All : Str
  Told : Int
  Why : Int
def T_ref30_Reader.c (x : T_ref30_Reader) : List Value := [sv x.All, .int .i64 x.Told, .int .i64 x.Why]
def T_ref30_Reader.zero : T_ref30_Reader := ⟨[], 0, 0⟩
structure T_frame_Reader where
  held_ : Sl
  shut_ : Bool
def T_frame_Reader.c (x : T_frame_Reader) : List Value := [slv x.held_, .bool x.shut_]
def T_frame_Reader.zero : T_frame_Reader := ⟨Sl.nil, false⟩

theorem ok_law30_FrameWrites : CallOk Try.prog 3 := ⟨⟨_, Try.func3, rfl, by decide +kernel⟩⟩
theorem ok_law30_FrameFeeds : CallOk Try.prog 4 := ⟨⟨_, Try.func4, rfl, by decide +kernel⟩⟩
theorem ok_law30_FrameNames : CallOk Try.prog 5 := ⟨⟨_, Try.func5, rfl, by decide +kernel⟩⟩
theorem ok_law30_FrameChunks : CallOk Try.prog 6 := ⟨⟨_, Try.func6, rfl, by decide +kernel⟩⟩
theorem ok_law30_FrameBack : CallOk Try.prog 7 := ⟨⟨_, Try.func7, rfl, by decide +kernel⟩⟩
theorem ok_law30_FrameBit : CallOk Try.prog 8 := ⟨⟨_, Try.func8, rfl, by decide +kernel⟩⟩
theorem ok_law30_awake : CallOk Try.prog 9 := ⟨⟨_, Try.func9, rfl, by decide +kernel⟩⟩
theorem ok_frame_Write : CallOk Try.prog 10 := ⟨⟨_, Try.func10, rfl, by decide +kernel⟩⟩
theorem ok_ref30_Write : CallOk Try.prog 11 := ⟨⟨_, Try.func11, rfl, by decide +kernel⟩⟩
theorem ok_frame_Sum : CallOk Try.prog 12 := ⟨⟨_, Try.func12, rfl, by decide +kernel⟩⟩
theorem ok_ref30_Sum : CallOk Try.prog 13 := ⟨⟨_, Try.func13, rfl, by decide +kernel⟩⟩
theorem ok_frame_New : CallOk Try.prog 14 := ⟨⟨_, Try.func14, rfl, by decide +kernel⟩⟩
theorem ok_frame_Reader_Feed : CallOk Try.prog 15 := ⟨⟨_, Try.func15, rfl, by decide +kernel⟩⟩
theorem ok_ref30_Reader_Feed : CallOk Try.prog 16 := ⟨⟨_, Try.func16, rfl, by decide +kernel⟩⟩
theorem ok_ref30_Same : CallOk Try.prog 17 := ⟨⟨_, Try.func17, rfl, by decide +kernel⟩⟩
theorem ok_frame_Reader_Held : CallOk Try.prog 18 := ⟨⟨_, Try.func18, rfl, by decide +kernel⟩⟩
theorem ok_ref30_Reader_Held : CallOk Try.prog 19 := ⟨⟨_, Try.func19, rfl, by decide +kernel⟩⟩
theorem ok_frame_Reader_Shut : CallOk Try.prog 20 := ⟨⟨_, Try.func20, rfl, by decide +kernel⟩⟩
theorem ok_law30_fed : CallOk Try.prog 21 := ⟨⟨_, Try.func21, rfl, by decide +kernel⟩⟩
theorem ok_frame_put : CallOk Try.prog 22 := ⟨⟨_, Try.func22, rfl, by decide +kernel⟩⟩
theorem ok_ref30_four : CallOk Try.prog 23 := ⟨⟨_, Try.func23, rfl, by decide +kernel⟩⟩
theorem ok_frame_Sum_1 : CallOk Try.prog 24 := ⟨⟨_, Try.func24, rfl, by decide +kernel⟩⟩
theorem ok_frame_get : CallOk Try.prog 25 := ⟨⟨_, Try.func25, rfl, by decide +kernel⟩⟩
theorem ok_frame_Reader_close : CallOk Try.prog 26 := ⟨⟨_, Try.func26, rfl, by decide +kernel⟩⟩
theorem ok_ref30_Cut : CallOk Try.prog 27 := ⟨⟨_, Try.func27, rfl, by decide +kernel⟩⟩
theorem ok_ref30_number : CallOk Try.prog 28 := ⟨⟨_, Try.func28, rfl, by decide +kernel⟩⟩

def c_law30_FrameWrites (C : Ctx) (p_s : Str) (K : Bool → Heap → Prop) (H : Heap) : Prop :=
  Spec Try.prog C 3 [sv p_s] H (fun v H2 => ∃ (r0 : Bool), v = .bool r0 ∧ K r0 H2)
theorem c_law30_FrameWrites.mono {C : Ctx} {p_s : Str} {K K2 : Bool → Heap → Prop} {H : Heap} (h : c_law30_FrameWrites C p_s K H) (hk : ∀ r0 H2, K r0 H2 → K2 r0 H2) : c_law30_FrameWrites C p_s K2 H :=
  Spec.mono h fun _ H2 ⟨r0, hv, h2⟩ => ⟨r0, hv, hk r0 H2 h2⟩
theorem c_law30_FrameWrites.gh {C : Ctx} {p_s : Str} {K : Bool → Heap → Prop} {H : Heap} (h : c_law30_FrameWrites C p_s (fun r0 H2 => ∃ H0, Gh C H2 H0 ∧ K r0 H0) H) : c_law30_FrameWrites C p_s K H :=
  Spec.gh (Spec.mono h fun _ H2 ⟨r0, hv, H0, hg, hk⟩ => ⟨H0, hg, r0, hv, hk⟩)
def c_law30_FrameFeeds (C : Ctx) (p_l : Sl) (K : Bool → Heap → Prop) (H : Heap) : Prop :=
  Spec Try.prog C 4 [slv p_l] H (fun v H2 => ∃ (r0 : Bool), v = .bool r0 ∧ K r0 H2)
theorem c_law30_FrameFeeds.mono {C : Ctx} {p_l : Sl} {K K2 : Bool → Heap → Prop} {H : Heap} (h : c_law30_FrameFeeds C p_l K H) (hk : ∀ r0 H2, K r0 H2 → K2 r0 H2) : c_law30_FrameFeeds C p_l K2 H :=
  Spec.mono h fun _ H2 ⟨r0, hv, h2⟩ => ⟨r0, hv, hk r0 H2 h2⟩
theorem c_law30_FrameFeeds.gh {C : Ctx} {p_l : Sl} {K : Bool → Heap → Prop} {H : Heap} (h : c_law30_FrameFeeds C p_l (fun r0 H2 => ∃ H0, Gh C H2 H0 ∧ K r0 H0) H) : c_law30_FrameFeeds C p_l K H :=
  Spec.gh (Spec.mono h fun _ H2 ⟨r0, hv, H0, hg, hk⟩ => ⟨H0, hg, r0, hv, hk⟩)
def c_law30_FrameNames (C : Ctx) (K : Bool → Heap → Prop) (H : Heap) : Prop :=
  Spec Try.prog C 5 [] H (fun v H2 => ∃ (r0 : Bool), v = .bool r0 ∧ K r0 H2)
theorem c_law30_FrameNames.mono {C : Ctx} {K K2 : Bool → Heap → Prop} {H : Heap} (h : c_law30_FrameNames C  K H) (hk : ∀ r0 H2, K r0 H2 → K2 r0 H2) : c_law30_FrameNames C  K2 H :=
  Spec.mono h fun _ H2 ⟨r0, hv, h2⟩ => ⟨r0, hv, hk r0 H2 h2⟩
theorem c_law30_FrameNames.gh {C : Ctx} {K : Bool → Heap → Prop} {H : Heap} (h : c_law30_FrameNames C  (fun r0 H2 => ∃ H0, Gh C H2 H0 ∧ K r0 H0) H) : c_law30_FrameNames C  K H :=
  Spec.gh (Spec.mono h fun _ H2 ⟨r0, hv, H0, hg, hk⟩ => ⟨H0, hg, r0, hv, hk⟩)
def c_law30_FrameChunks (C : Ctx) (p_b : Sl) (p_cuts : Sl) (K : Bool → Heap → Prop) (H : Heap) : Prop :=
  Spec Try.prog C 6 [slv p_b, slv p_cuts] H (fun v H2 => ∃ (r0 : Bool), v = .bool r0 ∧ K r0 H2)
theorem c_law30_FrameChunks.mono {C : Ctx} {p_b : Sl} {p_cuts : Sl} {K K2 : Bool → Heap → Prop} {H : Heap} (h : c_law30_FrameChunks C p_b p_cuts K H) (hk : ∀ r0 H2, K r0 H2 → K2 r0 H2) : c_law30_FrameChunks C p_b p_cuts K2 H :=
  Spec.mono h fun _ H2 ⟨r0, hv, h2⟩ => ⟨r0, hv, hk r0 H2 h2⟩
theorem c_law30_FrameChunks.gh {C : Ctx} {p_b : Sl} {p_cuts : Sl} {K : Bool → Heap → Prop} {H : Heap} (h : c_law30_FrameChunks C p_b p_cuts (fun r0 H2 => ∃ H0, Gh C H2 H0 ∧ K r0 H0) H) : c_law30_FrameChunks C p_b p_cuts K H :=
  Spec.gh (Spec.mono h fun _ H2 ⟨r0, hv, H0, hg, hk⟩ => ⟨H0, hg, r0, hv, hk⟩)
def c_law30_FrameBack (C : Ctx) (p_l : Sl) (K : Bool → Heap → Prop) (H : Heap) : Prop :=
  Spec Try.prog C 7 [slv p_l] H (fun v H2 => ∃ (r0 : Bool), v = .bool r0 ∧ K r0 H2)
theorem c_law30_FrameBack.mono {C : Ctx} {p_l : Sl} {K K2 : Bool → Heap → Prop} {H : Heap} (h : c_law30_FrameBack C p_l K H) (hk : ∀ r0 H2, K r0 H2 → K2 r0 H2) : c_law30_FrameBack C p_l K2 H :=
  Spec.mono h fun _ H2 ⟨r0, hv, h2⟩ => ⟨r0, hv, hk r0 H2 h2⟩
theorem c_law30_FrameBack.gh {C : Ctx} {p_l : Sl} {K : Bool → Heap → Prop} {H : Heap} (h : c_law30_FrameBack C p_l (fun r0 H2 => ∃ H0, Gh C H2 H0 ∧ K r0 H0) H) : c_law30_FrameBack C p_l K H :=
  Spec.gh (Spec.mono h fun _ H2 ⟨r0, hv, H0, hg, hk⟩ => ⟨H0, hg, r0, hv, hk⟩)
def c_law30_FrameBit (C : Ctx) (p_body : Str) (p_bit : Int) (K : Bool → Heap → Prop) (H : Heap) : Prop :=
  Spec Try.prog C 8 [sv p_body, .int .i64 p_bit] H (fun v H2 => ∃ (r0 : Bool), v = .bool r0 ∧ K r0 H2)
theorem c_law30_FrameBit.mono {C : Ctx} {p_body : Str} {p_bit : Int} {K K2 : Bool → Heap → Prop} {H : Heap} (h : c_law30_FrameBit C p_body p_bit K H) (hk : ∀ r0 H2, K r0 H2 → K2 r0 H2) : c_law30_FrameBit C p_body p_bit K2 H :=
  Spec.mono h fun _ H2 ⟨r0, hv, h2⟩ => ⟨r0, hv, hk r0 H2 h2⟩
theorem c_law30_FrameBit.gh {C : Ctx} {p_body : Str} {p_bit : Int} {K : Bool → Heap → Prop} {H : Heap} (h : c_law30_FrameBit C p_body p_bit (fun r0 H2 => ∃ H0, Gh C H2 H0 ∧ K r0 H0) H) : c_law30_FrameBit C p_body p_bit K H :=
  Spec.gh (Spec.mono h fun _ H2 ⟨r0, hv, H0, hg, hk⟩ => ⟨H0, hg, r0, hv, hk⟩)
def c_law30_awake (C : Ctx) (K : Bool → Heap → Prop) (H : Heap) : Prop :=
  Spec Try.prog C 9 [] H (fun v H2 => ∃ (r0 : Bool), v = .bool r0 ∧ K r0 H2)
theorem c_law30_awake.mono {C : Ctx} {K K2 : Bool → Heap → Prop} {H : Heap} (h : c_law30_awake C  K H) (hk : ∀ r0 H2, K r0 H2 → K2 r0 H2) : c_law30_awake C  K2 H :=
  Spec.mono h fun _ H2 ⟨r0, hv, h2⟩ => ⟨r0, hv, hk r0 H2 h2⟩
theorem c_law30_awake.gh {C : Ctx} {K : Bool → Heap → Prop} {H : Heap} (h : c_law30_awake C  (fun r0 H2 => ∃ H0, Gh C H2 H0 ∧ K r0 H0) H) : c_law30_awake C  K H :=
  Spec.gh (Spec.mono h fun _ H2 ⟨r0, hv, H0, hg, hk⟩ => ⟨H0, hg, r0, hv, hk⟩)
def c_frame_Write (C : Ctx) (p_body : Str) (K : Str → Int → Heap → Prop) (H : Heap) : Prop :=
  Spec Try.prog C 10 [sv p_body] H (fun v H2 => ∃ (r0 : Str) (r1 : Int), v = .tuple #[sv r0, .int .i64 r1] ∧ K r0 r1 H2)
theorem c_frame_Write.mono {C : Ctx} {p_body : Str} {K K2 : Str → Int → Heap → Prop} {H : Heap} (h : c_frame_Write C p_body K H) (hk : ∀ r0 r1 H2, K r0 r1 H2 → K2 r0 r1 H2) : c_frame_Write C p_body K2 H :=
  Spec.mono h fun _ H2 ⟨r0, r1, hv, h2⟩ => ⟨r0, r1, hv, hk r0 r1 H2 h2⟩
theorem c_frame_Write.gh {C : Ctx} {p_body : Str} {K : Str → Int → Heap → Prop} {H : Heap} (h : c_frame_Write C p_body (fun r0 r1 H2 => ∃ H0, Gh C H2 H0 ∧ K r0 r1 H0) H) : c_frame_Write C p_body K H :=
  Spec.gh (Spec.mono h fun _ H2 ⟨r0, r1, hv, H0, hg, hk⟩ => ⟨H0, hg, r0, r1, hv, hk⟩)
def c_ref30_Write (C : Ctx) (p_body : Str) (K : Str → Int → Heap → Prop) (H : Heap) : Prop :=
  Spec Try.prog C 11 [sv p_body] H (fun v H2 => ∃ (r0 : Str) (r1 : Int), v = .tuple #[sv r0, .int .i64 r1] ∧ K r0 r1 H2)
theorem c_ref30_Write.mono {C : Ctx} {p_body : Str} {K K2 : Str → Int → Heap → Prop} {H : Heap} (h : c_ref30_Write C p_body K H) (hk : ∀ r0 r1 H2, K r0 r1 H2 → K2 r0 r1 H2) : c_ref30_Write C p_body K2 H :=
  Spec.mono h fun _ H2 ⟨r0, r1, hv, h2⟩ => ⟨r0, r1, hv, hk r0 r1 H2 h2⟩
theorem c_ref30_Write.gh {C : Ctx} {p_body : Str} {K : Str → Int → Heap → Prop} {H : Heap} (h : c_ref30_Write C p_body (fun r0 r1 H2 => ∃ H0, Gh C H2 H0 ∧ K r0 r1 H0) H) : c_ref30_Write C p_body K H :=
  Spec.gh (Spec.mono h fun _ H2 ⟨r0, r1, hv, H0, hg, hk⟩ => ⟨H0, hg, r0, r1, hv, hk⟩)
def c_frame_Sum (C : Ctx) (p_s : Str) (K : Int → Heap → Prop) (H : Heap) : Prop :=
  Spec Try.prog C 12 [sv p_s] H (fun v H2 => ∃ (r0 : Int), v = .int .u32 r0 ∧ K r0 H2)
theorem c_frame_Sum.mono {C : Ctx} {p_s : Str} {K K2 : Int → Heap → Prop} {H : Heap} (h : c_frame_Sum C p_s K H) (hk : ∀ r0 H2, K r0 H2 → K2 r0 H2) : c_frame_Sum C p_s K2 H :=
  Spec.mono h fun _ H2 ⟨r0, hv, h2⟩ => ⟨r0, hv, hk r0 H2 h2⟩
theorem c_frame_Sum.gh {C : Ctx} {p_s : Str} {K : Int → Heap → Prop} {H : Heap} (h : c_frame_Sum C p_s (fun r0 H2 => ∃ H0, Gh C H2 H0 ∧ K r0 H0) H) : c_frame_Sum C p_s K H :=
  Spec.gh (Spec.mono h fun _ H2 ⟨r0, hv, H0, hg, hk⟩ => ⟨H0, hg, r0, hv, hk⟩)
def c_ref30_Sum (C : Ctx) (p_s : Str) (K : Int → Heap → Prop) (H : Heap) : Prop :=
  Spec Try.prog C 13 [sv p_s] H (fun v H2 => ∃ (r0 : Int), v = .int .u32 r0 ∧ K r0 H2)
theorem c_ref30_Sum.mono {C : Ctx} {p_s : Str} {K K2 : Int → Heap → Prop} {H : Heap} (h : c_ref30_Sum C p_s K H) (hk : ∀ r0 H2, K r0 H2 → K2 r0 H2) : c_ref30_Sum C p_s K2 H :=
  Spec.mono h fun _ H2 ⟨r0, hv, h2⟩ => ⟨r0, hv, hk r0 H2 h2⟩
theorem c_ref30_Sum.gh {C : Ctx} {p_s : Str} {K : Int → Heap → Prop} {H : Heap} (h : c_ref30_Sum C p_s (fun r0 H2 => ∃ H0, Gh C H2 H0 ∧ K r0 H0) H) : c_ref30_Sum C p_s K H :=
  Spec.gh (Spec.mono h fun _ H2 ⟨r0, hv, H0, hg, hk⟩ => ⟨H0, hg, r0, hv, hk⟩)
def c_frame_New (C : Ctx) (K : Option (Nat × Nat) → Heap → Prop) (H : Heap) : Prop :=
  Spec Try.prog C 14 [] H (fun v H2 => ∃ (r0 : Option (Nat × Nat)), v = pv r0 ∧ K r0 H2)
theorem c_frame_New.mono {C : Ctx} {K K2 : Option (Nat × Nat) → Heap → Prop} {H : Heap} (h : c_frame_New C  K H) (hk : ∀ r0 H2, K r0 H2 → K2 r0 H2) : c_frame_New C  K2 H :=
  Spec.mono h fun _ H2 ⟨r0, hv, h2⟩ => ⟨r0, hv, hk r0 H2 h2⟩
theorem c_frame_New.gh {C : Ctx} {K : Option (Nat × Nat) → Heap → Prop} {H : Heap} (h : c_frame_New C  (fun r0 H2 => ∃ H0, Gh C H2 H0 ∧ K r0 H0) H) : c_frame_New C  K H :=
  Spec.gh (Spec.mono h fun _ H2 ⟨r0, hv, H0, hg, hk⟩ => ⟨H0, hg, r0, hv, hk⟩)
def c_frame_Reader_Feed (C : Ctx) (p_r : Option (Nat × Nat)) (p_chunk : Sl) (K : Sl → Int → Heap → Prop) (H : Heap) : Prop :=
  Spec Try.prog C 15 [pv p_r, slv p_chunk] H (fun v H2 => ∃ (r0 : Sl) (r1 : Int), v = .tuple #[slv r0, .int .i64 r1] ∧ K r0 r1 H2)
theorem c_frame_Reader_Feed.mono {C : Ctx} {p_r : Option (Nat × Nat)} {p_chunk : Sl} {K K2 : Sl → Int → Heap → Prop} {H : Heap} (h : c_frame_Reader_Feed C p_r p_chunk K H) (hk : ∀ r0 r1 H2, K r0 r1 H2 → K2 r0 r1 H2) : c_frame_Reader_Feed C p_r p_chunk K2 H :=
  Spec.mono h fun _ H2 ⟨r0, r1, hv, h2⟩ => ⟨r0, r1, hv, hk r0 r1 H2 h2⟩
theorem c_frame_Reader_Feed.gh {C : Ctx} {p_r : Option (Nat × Nat)} {p_chunk : Sl} {K : Sl → Int → Heap → Prop} {H : Heap} (h : c_frame_Reader_Feed C p_r p_chunk (fun r0 r1 H2 => ∃ H0, Gh C H2 H0 ∧ K r0 r1 H0) H) : c_frame_Reader_Feed C p_r p_chunk K H :=
  Spec.gh (Spec.mono h fun _ H2 ⟨r0, r1, hv, H0, hg, hk⟩ => ⟨H0, hg, r0, r1, hv, hk⟩)
def c_ref30_Reader_Feed (C : Ctx) (p_r : Option (Nat × Nat)) (p_chunk : Sl) (K : Sl → Int → Heap → Prop) (H : Heap) : Prop :=
  Spec Try.prog C 16 [pv p_r, slv p_chunk] H (fun v H2 => ∃ (r0 : Sl) (r1 : Int), v = .tuple #[slv r0, .int .i64 r1] ∧ K r0 r1 H2)
theorem c_ref30_Reader_Feed.mono {C : Ctx} {p_r : Option (Nat × Nat)} {p_chunk : Sl} {K K2 : Sl → Int → Heap → Prop} {H : Heap} (h : c_ref30_Reader_Feed C p_r p_chunk K H) (hk : ∀ r0 r1 H2, K r0 r1 H2 → K2 r0 r1 H2) : c_ref30_Reader_Feed C p_r p_chunk K2 H :=
  Spec.mono h fun _ H2 ⟨r0, r1, hv, h2⟩ => ⟨r0, r1, hv, hk r0 r1 H2 h2⟩
theorem c_ref30_Reader_Feed.gh {C : Ctx} {p_r : Option (Nat × Nat)} {p_chunk : Sl} {K : Sl → Int → Heap → Prop} {H : Heap} (h : c_ref30_Reader_Feed C p_r p_chunk (fun r0 r1 H2 => ∃ H0, Gh C H2 H0 ∧ K r0 r1 H0) H) : c_ref30_Reader_Feed C p_r p_chunk K H :=
  Spec.gh (Spec.mono h fun _ H2 ⟨r0, r1, hv, H0, hg, hk⟩ => ⟨H0, hg, r0, r1, hv, hk⟩)
def c_ref30_Same (C : Ctx) (p_a : Sl) (p_b : Sl) (K : Bool → Heap → Prop) (H : Heap) : Prop :=
  Spec Try.prog C 17 [slv p_a, slv p_b] H (fun v H2 => ∃ (r0 : Bool), v = .bool r0 ∧ K r0 H2)
theorem c_ref30_Same.mono {C : Ctx} {p_a : Sl} {p_b : Sl} {K K2 : Bool → Heap → Prop} {H : Heap} (h : c_ref30_Same C p_a p_b K H) (hk : ∀ r0 H2, K r0 H2 → K2 r0 H2) : c_ref30_Same C p_a p_b K2 H :=
  Spec.mono h fun _ H2 ⟨r0, hv, h2⟩ => ⟨r0, hv, hk r0 H2 h2⟩
theorem c_ref30_Same.gh {C : Ctx} {p_a : Sl} {p_b : Sl} {K : Bool → Heap → Prop} {H : Heap} (h : c_ref30_Same C p_a p_b (fun r0 H2 => ∃ H0, Gh C H2 H0 ∧ K r0 H0) H) : c_ref30_Same C p_a p_b K H :=
  Spec.gh (Spec.mono h fun _ H2 ⟨r0, hv, H0, hg, hk⟩ => ⟨H0, hg, r0, hv, hk⟩)
def c_frame_Reader_Held (C : Ctx) (p_r : Option (Nat × Nat)) (K : Int → Heap → Prop) (H : Heap) : Prop :=
  Spec Try.prog C 18 [pv p_r] H (fun v H2 => ∃ (r0 : Int), v = .int .i64 r0 ∧ K r0 H2)
theorem c_frame_Reader_Held.mono {C : Ctx} {p_r : Option (Nat × Nat)} {K K2 : Int → Heap → Prop} {H : Heap} (h : c_frame_Reader_Held C p_r K H) (hk : ∀ r0 H2, K r0 H2 → K2 r0 H2) : c_frame_Reader_Held C p_r K2 H :=
  Spec.mono h fun _ H2 ⟨r0, hv, h2⟩ => ⟨r0, hv, hk r0 H2 h2⟩
theorem c_frame_Reader_Held.gh {C : Ctx} {p_r : Option (Nat × Nat)} {K : Int → Heap → Prop} {H : Heap} (h : c_frame_Reader_Held C p_r (fun r0 H2 => ∃ H0, Gh C H2 H0 ∧ K r0 H0) H) : c_frame_Reader_Held C p_r K H :=
  Spec.gh (Spec.mono h fun _ H2 ⟨r0, hv, H0, hg, hk⟩ => ⟨H0, hg, r0, hv, hk⟩)
def c_ref30_Reader_Held (C : Ctx) (p_r : Option (Nat × Nat)) (K : Int → Heap → Prop) (H : Heap) : Prop :=
  Spec Try.prog C 19 [pv p_r] H (fun v H2 => ∃ (r0 : Int), v = .int .i64 r0 ∧ K r0 H2)
theorem c_ref30_Reader_Held.mono {C : Ctx} {p_r : Option (Nat × Nat)} {K K2 : Int → Heap → Prop} {H : Heap} (h : c_ref30_Reader_Held C p_r K H) (hk : ∀ r0 H2, K r0 H2 → K2 r0 H2) : c_ref30_Reader_Held C p_r K2 H :=
  Spec.mono h fun _ H2 ⟨r0, hv, h2⟩ => ⟨r0, hv, hk r0 H2 h2⟩
theorem c_ref30_Reader_Held.gh {C : Ctx} {p_r : Option (Nat × Nat)} {K : Int → Heap → Prop} {H : Heap} (h : c_ref30_Reader_Held C p_r (fun r0 H2 => ∃ H0, Gh C H2 H0 ∧ K r0 H0) H) : c_ref30_Reader_Held C p_r K H :=
  Spec.gh (Spec.mono h fun _ H2 ⟨r0, hv, H0, hg, hk⟩ => ⟨H0, hg, r0, hv, hk⟩)
def c_frame_Reader_Shut (C : Ctx) (p_r : Option (Nat × Nat)) (K : Bool → Heap → Prop) (H : Heap) : Prop :=
  Spec Try.prog C 20 [pv p_r] H (fun v H2 => ∃ (r0 : Bool), v = .bool r0 ∧ K r0 H2)
theorem c_frame_Reader_Shut.mono {C : Ctx} {p_r : Option (Nat × Nat)} {K K2 : Bool → Heap → Prop} {H : Heap} (h : c_frame_Reader_Shut C p_r K H) (hk : ∀ r0 H2, K r0 H2 → K2 r0 H2) : c_frame_Reader_Shut C p_r K2 H :=
  Spec.mono h fun _ H2 ⟨r0, hv, h2⟩ => ⟨r0, hv, hk r0 H2 h2⟩
theorem c_frame_Reader_Shut.gh {C : Ctx} {p_r : Option (Nat × Nat)} {K : Bool → Heap → Prop} {H : Heap} (h : c_frame_Reader_Shut C p_r (fun r0 H2 => ∃ H0, Gh C H2 H0 ∧ K r0 H0) H) : c_frame_Reader_Shut C p_r K H :=
  Spec.gh (Spec.mono h fun _ H2 ⟨r0, hv, H0, hg, hk⟩ => ⟨H0, hg, r0, hv, hk⟩)
def c_law30_fed (C : Ctx) (p_l : Sl) (K : Sl → Int → Int → Heap → Prop) (H : Heap) : Prop :=
  Spec Try.prog C 21 [slv p_l] H (fun v H2 => ∃ (r0 : Sl) (r1 : Int) (r2 : Int), v = .tuple #[slv r0, .int .i64 r1, .int .i64 r2] ∧ K r0 r1 r2 H2)
theorem c_law30_fed.mono {C : Ctx} {p_l : Sl} {K K2 : Sl → Int → Int → Heap → Prop} {H : Heap} (h : c_law30_fed C p_l K H) (hk : ∀ r0 r1 r2 H2, K r0 r1 r2 H2 → K2 r0 r1 r2 H2) : c_law30_fed C p_l K2 H :=
  Spec.mono h fun _ H2 ⟨r0, r1, r2, hv, h2⟩ => ⟨r0, r1, r2, hv, hk r0 r1 r2 H2 h2⟩
theorem c_law30_fed.gh {C : Ctx} {p_l : Sl} {K : Sl → Int → Int → Heap → Prop} {H : Heap} (h : c_law30_fed C p_l (fun r0 r1 r2 H2 => ∃ H0, Gh C H2 H0 ∧ K r0 r1 r2 H0) H) : c_law30_fed C p_l K H :=
  Spec.gh (Spec.mono h fun _ H2 ⟨r0, r1, r2, hv, H0, hg, hk⟩ => ⟨H0, hg, r0, r1, r2, hv, hk⟩)
def c_frame_put (C : Ctx) (p_b : Sl) (p_n : Int) (K : Sl → Heap → Prop) (H : Heap) : Prop :=
  Spec Try.prog C 22 [slv p_b, .int .u32 p_n] H (fun v H2 => ∃ (r0 : Sl), v = slv r0 ∧ K r0 H2)
theorem c_frame_put.mono {C : Ctx} {p_b : Sl} {p_n : Int} {K K2 : Sl → Heap → Prop} {H : Heap} (h : c_frame_put C p_b p_n K H) (hk : ∀ r0 H2, K r0 H2 → K2 r0 H2) : c_frame_put C p_b p_n K2 H :=
  Spec.mono h fun _ H2 ⟨r0, hv, h2⟩ => ⟨r0, hv, hk r0 H2 h2⟩
theorem c_frame_put.gh {C : Ctx} {p_b : Sl} {p_n : Int} {K : Sl → Heap → Prop} {H : Heap} (h : c_frame_put C p_b p_n (fun r0 H2 => ∃ H0, Gh C H2 H0 ∧ K r0 H0) H) : c_frame_put C p_b p_n K H :=
  Spec.gh (Spec.mono h fun _ H2 ⟨r0, hv, H0, hg, hk⟩ => ⟨H0, hg, r0, hv, hk⟩)
def c_ref30_four (C : Ctx) (p_n : Int) (K : Str → Heap → Prop) (H : Heap) : Prop :=
  Spec Try.prog C 23 [.int .u32 p_n] H (fun v H2 => ∃ (r0 : Str), v = sv r0 ∧ K r0 H2)
theorem c_ref30_four.mono {C : Ctx} {p_n : Int} {K K2 : Str → Heap → Prop} {H : Heap} (h : c_ref30_four C p_n K H) (hk : ∀ r0 H2, K r0 H2 → K2 r0 H2) : c_ref30_four C p_n K2 H :=
  Spec.mono h fun _ H2 ⟨r0, hv, h2⟩ => ⟨r0, hv, hk r0 H2 h2⟩
theorem c_ref30_four.gh {C : Ctx} {p_n : Int} {K : Str → Heap → Prop} {H : Heap} (h : c_ref30_four C p_n (fun r0 H2 => ∃ H0, Gh C H2 H0 ∧ K r0 H0) H) : c_ref30_four C p_n K H :=
  Spec.gh (Spec.mono h fun _ H2 ⟨r0, hv, H0, hg, hk⟩ => ⟨H0, hg, r0, hv, hk⟩)
def c_frame_Sum_1 (C : Ctx) (v0 : Nat × Nat) (K : Heap → Prop) (H : Heap) : Prop :=
  Spec Try.prog C 24 [pv (some v0)] H (fun v H2 => v = .tuple #[] ∧ K H2)
theorem c_frame_Sum_1.mono {C : Ctx} {v0 : Nat × Nat} {K K2 : Heap → Prop} {H : Heap} (h : c_frame_Sum_1 C v0 K H) (hk : ∀  H2, K  H2 → K2  H2) : c_frame_Sum_1 C v0 K2 H :=
  Spec.mono h fun _ H2 ⟨hv, h2⟩ => ⟨hv, hk H2 h2⟩
theorem c_frame_Sum_1.gh {C : Ctx} {v0 : Nat × Nat} {K : Heap → Prop} {H : Heap} (h : c_frame_Sum_1 C v0 (fun  H2 => ∃ H0, Gh C H2 H0 ∧ K  H0) H) : c_frame_Sum_1 C v0 K H :=
  Spec.gh (Spec.mono h fun _ H2 ⟨hv, H0, hg, hk⟩ => ⟨H0, hg, hv, hk⟩)
def c_frame_get (C : Ctx) (p_b : Sl) (K : Int → Heap → Prop) (H : Heap) : Prop :=
  Spec Try.prog C 25 [slv p_b] H (fun v H2 => ∃ (r0 : Int), v = .int .u32 r0 ∧ K r0 H2)
theorem c_frame_get.mono {C : Ctx} {p_b : Sl} {K K2 : Int → Heap → Prop} {H : Heap} (h : c_frame_get C p_b K H) (hk : ∀ r0 H2, K r0 H2 → K2 r0 H2) : c_frame_get C p_b K2 H :=
  Spec.mono h fun _ H2 ⟨r0, hv, h2⟩ => ⟨r0, hv, hk r0 H2 h2⟩
theorem c_frame_get.gh {C : Ctx} {p_b : Sl} {K : Int → Heap → Prop} {H : Heap} (h : c_frame_get C p_b (fun r0 H2 => ∃ H0, Gh C H2 H0 ∧ K r0 H0) H) : c_frame_get C p_b K H :=
  Spec.gh (Spec.mono h fun _ H2 ⟨r0, hv, H0, hg, hk⟩ => ⟨H0, hg, r0, hv, hk⟩)
def c_frame_Reader_close (C : Ctx) (p_r : Option (Nat × Nat)) (p_out : Sl) (p_e : Int) (K : Sl → Int → Heap → Prop) (H : Heap) : Prop :=
  Spec Try.prog C 26 [pv p_r, slv p_out, .int .i64 p_e] H (fun v H2 => ∃ (r0 : Sl) (r1 : Int), v = .tuple #[slv r0, .int .i64 r1] ∧ K r0 r1 H2)
theorem c_frame_Reader_close.mono {C : Ctx} {p_r : Option (Nat × Nat)} {p_out : Sl} {p_e : Int} {K K2 : Sl → Int → Heap → Prop} {H : Heap} (h : c_frame_Reader_close C p_r p_out p_e K H) (hk : ∀ r0 r1 H2, K r0 r1 H2 → K2 r0 r1 H2) : c_frame_Reader_close C p_r p_out p_e K2 H :=
  Spec.mono h fun _ H2 ⟨r0, r1, hv, h2⟩ => ⟨r0, r1, hv, hk r0 r1 H2 h2⟩
theorem c_frame_Reader_close.gh {C : Ctx} {p_r : Option (Nat × Nat)} {p_out : Sl} {p_e : Int} {K : Sl → Int → Heap → Prop} {H : Heap} (h : c_frame_Reader_close C p_r p_out p_e (fun r0 r1 H2 => ∃ H0, Gh C H2 H0 ∧ K r0 r1 H0) H) : c_frame_Reader_close C p_r p_out p_e K H :=
  Spec.gh (Spec.mono h fun _ H2 ⟨r0, r1, hv, H0, hg, hk⟩ => ⟨H0, hg, r0, r1, hv, hk⟩)
def c_ref30_Cut (C : Ctx) (p_s : Str) (K : Sl → Int → Int → Heap → Prop) (H : Heap) : Prop :=
  Spec Try.prog C 27 [sv p_s] H (fun v H2 => ∃ (r0 : Sl) (r1 : Int) (r2 : Int), v = .tuple #[slv r0, .int .i64 r1, .int .i64 r2] ∧ K r0 r1 r2 H2)
theorem c_ref30_Cut.mono {C : Ctx} {p_s : Str} {K K2 : Sl → Int → Int → Heap → Prop} {H : Heap} (h : c_ref30_Cut C p_s K H) (hk : ∀ r0 r1 r2 H2, K r0 r1 r2 H2 → K2 r0 r1 r2 H2) : c_ref30_Cut C p_s K2 H :=
  Spec.mono h fun _ H2 ⟨r0, r1, r2, hv, h2⟩ => ⟨r0, r1, r2, hv, hk r0 r1 r2 H2 h2⟩
theorem c_ref30_Cut.gh {C : Ctx} {p_s : Str} {K : Sl → Int → Int → Heap → Prop} {H : Heap} (h : c_ref30_Cut C p_s (fun r0 r1 r2 H2 => ∃ H0, Gh C H2 H0 ∧ K r0 r1 r2 H0) H) : c_ref30_Cut C p_s K H :=
  Spec.gh (Spec.mono h fun _ H2 ⟨r0, r1, r2, hv, H0, hg, hk⟩ => ⟨H0, hg, r0, r1, r2, hv, hk⟩)
def c_ref30_number (C : Ctx) (p_s : Str) (K : Int → Heap → Prop) (H : Heap) : Prop :=
  Spec Try.prog C 28 [sv p_s] H (fun v H2 => ∃ (r0 : Int), v = .int .u32 r0 ∧ K r0 H2)
theorem c_ref30_number.mono {C : Ctx} {p_s : Str} {K K2 : Int → Heap → Prop} {H : Heap} (h : c_ref30_number C p_s K H) (hk : ∀ r0 H2, K r0 H2 → K2 r0 H2) : c_ref30_number C p_s K2 H :=
  Spec.mono h fun _ H2 ⟨r0, hv, h2⟩ => ⟨r0, hv, hk r0 H2 h2⟩
theorem c_ref30_number.gh {C : Ctx} {p_s : Str} {K : Int → Heap → Prop} {H : Heap} (h : c_ref30_number C p_s (fun r0 H2 => ∃ H0, Gh C H2 H0 ∧ K r0 H0) H) : c_ref30_number C p_s K H :=
  Spec.gh (Spec.mono h fun _ H2 ⟨r0, hv, H0, hg, hk⟩ => ⟨H0, hg, r0, hv, hk⟩)



def sh_law30_FrameWrites (C : Ctx) (p_s : Str) (K : Bool → Heap → Prop) (H : Heap) : Prop :=
  ift (decide (((List.length p_s : Int) : Int) > 70000))
 (c_law30_awake C (fun r2 H3 =>
 K r2 H3) H)
 (c_frame_Write C p_s (fun r4 r5 H6 =>
 c_ref30_Write C p_s (fun r7 r8 H9 =>
 c_frame_Sum C p_s (fun r10 H11 =>
 c_ref30_Sum C p_s (fun r12 H13 =>
 jn (α := Bool) (fun b16 H22 =>
 K b16 H22)
 (fun J17 => ift ((((r10 : Int) == r12) && (r4 == r7)) && ((r5 : Int) == r8))
 (c_law30_awake C (fun r20 H21 =>
 J17 r20 H21) H13)
 (J17 false H13))) H11) H9) H6) H)

theorem ad_law30_FrameWrites (C : Ctx) (p_s : Str) (K : Bool → Heap → Prop) (H : Heap) (h : sh_law30_FrameWrites C p_s K H) : c_law30_FrameWrites C p_s K H := by
  refine Spec.enter Try.func3 rfl Try.ntmps3 rfl ?_
  refine GC.sub [(0, sv p_s)] ⟨rfl, trivial⟩ ?_
  refine GC.seq ?_
  refine GC.region ?_
  refine GL.val trivial rfl (OV.assign (v := .bool false) rfl) ?_
  refine GL.nil ?_
  refine GC.seq ?_
  refine GC.seq ?_
  refine GC.region ?_
  refine GL.val trivial rfl (OV.move (v := sv p_s) rfl) ?_
  refine GL.val trivial rfl (OV.lenStr (s := p_s) rfl rfl) ?_
  refine GL.val trivial rfl (OV.ibin (v := .bool (decide (((List.length p_s : Int) : Int) > 70000))) rfl rfl rfl) ?_
  refine GL.nil ?_
  refine GC.cond (b := decide (((List.length p_s : Int) : Int) > 70000)) rfl (fun hc1 => ?_) (fun hc1 => ?_)
  · replace h := And.left h hc1
    refine GC.seq ?_
    refine GC.region ?_
    refine GL.call h trivial rfl ok_law30_awake (vs := []) rfl ?_
    rintro _ H3 ⟨r2, rfl, h⟩
    refine GL.val trivial rfl (OV.assign (v := .bool r2) rfl) ?_
    refine GL.nil ?_
    exact GC.ret (fun _ _ hf hs => post_tmp1 rfl rfl hf hs ⟨r2, rfl, h⟩)
  · replace h := And.right h hc1
    refine GC.skip ?_
    refine GC.seq ?_
    refine GC.region ?_
    refine GL.val trivial rfl (OV.move (v := sv p_s) rfl) ?_
    refine GL.call h trivial rfl ok_frame_Write (vs := [sv p_s]) rfl ?_
    rintro _ H6 ⟨r4, r5, rfl, h⟩
    refine GL.val trivial rfl (OV.move (v := .tuple #[sv r4, .int .i64 r5]) rfl) ?_
    refine GL.val trivial rfl (OV.extract (v := sv r4) rfl rfl) ?_
    refine GL.val trivial rfl (OV.extract (v := .int .i64 r5) rfl rfl) ?_
    refine GL.val trivial rfl (OV.assign (v := sv r4) rfl) ?_
    refine GL.val trivial rfl (OV.assign (v := .int .i64 r5) rfl) ?_
    refine GL.nil ?_
    refine GC.seq ?_
    refine GC.region ?_
    refine GL.val trivial rfl (OV.move (v := sv p_s) rfl) ?_
    refine GL.call h trivial rfl ok_ref30_Write (vs := [sv p_s]) rfl ?_
    rintro _ H9 ⟨r7, r8, rfl, h⟩
    refine GL.val trivial rfl (OV.move (v := .tuple #[sv r7, .int .i64 r8]) rfl) ?_
    refine GL.val trivial rfl (OV.extract (v := sv r7) rfl rfl) ?_
    refine GL.val trivial rfl (OV.extract (v := .int .i64 r8) rfl rfl) ?_
    refine GL.val trivial rfl (OV.assign (v := sv r7) rfl) ?_
    refine GL.val trivial rfl (OV.assign (v := .int .i64 r8) rfl) ?_
    refine GL.nil ?_
    refine GC.seq ?_
    refine GC.region ?_
    refine GL.val trivial rfl (OV.move (v := sv p_s) rfl) ?_
    refine GL.call h trivial rfl ok_frame_Sum (vs := [sv p_s]) rfl ?_
    rintro _ H11 ⟨r10, rfl, h⟩
    refine GL.val trivial rfl (OV.move (v := sv p_s) rfl) ?_
    refine GL.call h trivial rfl ok_ref30_Sum (vs := [sv p_s]) rfl ?_
    rintro _ H13 ⟨r12, rfl, h⟩
    refine GL.val trivial rfl (OV.ibin (v := .bool ((r10 : Int) == r12)) rfl rfl rfl) ?_
    refine GL.val trivial rfl (OV.move (v := .bool ((r10 : Int) == r12)) rfl) ?_
    refine GL.cut0 4 [(30, .bool (((r10 : Int) == r12) && (r4 == r7))), (4, .int .i64 r5), (6, .int .i64 r8)] ?_ ?_
    · rcases Bool.eq_false_or_eq_true ((r10 : Int) == r12) with hc14 | hc14
      · skip
        refine GL.val ⟨_, _, rfl, rfl, hc14⟩ rfl (OV.move (v := sv r4) rfl) ?_
        refine GL.val ⟨_, _, rfl, rfl, hc14⟩ rfl (OV.move (v := sv r7) rfl) ?_
        refine GL.val ⟨_, _, rfl, rfl, hc14⟩ rfl (OV.sbin (a := r4) (b := r7) (v := .bool (r4 == r7)) rfl rfl rfl) ?_
        refine GL.val trivial rfl (OV.pickT (b := (r10 : Int) == r12) (v := .bool (r4 == r7)) rfl hc14 rfl) ?_
        exact GL.jump0 (fun _ _ h => h) () rfl ⟨(by rw [hc14]; rfl), rfl, rfl, trivial⟩
      · skip
        refine GL.skip ⟨_, rfl, .inl ⟨_, rfl, hc14⟩⟩ rfl ?_
        refine GL.skip ⟨_, rfl, .inl ⟨_, rfl, hc14⟩⟩ rfl ?_
        refine GL.skip ⟨_, rfl, .inl ⟨_, rfl, hc14⟩⟩ rfl ?_
        refine GL.val trivial rfl (OV.pickF (b := (r10 : Int) == r12) (v := .bool false) rfl hc14 rfl) ?_
        exact GL.jump0 (fun _ _ h => h) () rfl ⟨(by rw [hc14]; rfl), rfl, rfl, trivial⟩
    refine GL.val trivial rfl (OV.move (v := .bool (((r10 : Int) == r12) && (r4 == r7))) rfl) ?_
    refine GL.cut0 4 [(35, .bool ((((r10 : Int) == r12) && (r4 == r7)) && ((r5 : Int) == r8)))] ?_ ?_
    · rcases Bool.eq_false_or_eq_true (((r10 : Int) == r12) && (r4 == r7)) with hc15 | hc15
      · skip
        refine GL.val ⟨_, _, rfl, rfl, hc15⟩ rfl (OV.move (v := .int .i64 r5) rfl) ?_
        refine GL.val ⟨_, _, rfl, rfl, hc15⟩ rfl (OV.move (v := .int .i64 r8) rfl) ?_
        refine GL.val ⟨_, _, rfl, rfl, hc15⟩ rfl (OV.ibin (v := .bool ((r5 : Int) == r8)) rfl rfl rfl) ?_
        refine GL.val trivial rfl (OV.pickT (b := ((r10 : Int) == r12) && (r4 == r7)) (v := .bool ((r5 : Int) == r8)) rfl hc15 rfl) ?_
        exact GL.jump0 (fun _ _ h => h) () rfl ⟨(by rw [hc15]; rfl), trivial⟩
      · skip
        refine GL.skip ⟨_, rfl, .inl ⟨_, rfl, hc15⟩⟩ rfl ?_
        refine GL.skip ⟨_, rfl, .inl ⟨_, rfl, hc15⟩⟩ rfl ?_
        refine GL.skip ⟨_, rfl, .inl ⟨_, rfl, hc15⟩⟩ rfl ?_
        refine GL.val trivial rfl (OV.pickF (b := ((r10 : Int) == r12) && (r4 == r7)) (v := .bool false) rfl hc15 rfl) ?_
        exact GL.jump0 (fun _ _ h => h) () rfl ⟨(by rw [hc15]; rfl), trivial⟩
    refine GL.val trivial rfl (OV.move (v := .bool ((((r10 : Int) == r12) && (r4 == r7)) && ((r5 : Int) == r8))) rfl) ?_
    obtain ⟨J17, h, hR18⟩ := h
    refine GL.cut (α := Bool) 2 J17 (fun b16 => [(38, .bool b16)]) ?_ ?_
    · rcases Bool.eq_false_or_eq_true ((((r10 : Int) == r12) && (r4 == r7)) && ((r5 : Int) == r8)) with hc19 | hc19
      · skip
        replace h := And.left h hc19
        refine GL.call h ⟨_, _, rfl, rfl, hc19⟩ rfl ok_law30_awake (vs := []) rfl ?_
        rintro _ H21 ⟨r20, rfl, h⟩
        refine GL.val trivial rfl (OV.pickT (b := (((r10 : Int) == r12) && (r4 == r7)) && ((r5 : Int) == r8)) (v := .bool r20) rfl hc19 rfl) ?_
        exact GL.jump (fun _ _ h => h) r20 h ⟨rfl, trivial⟩
      · skip
        replace h := And.right h hc19
        refine GL.skip ⟨_, rfl, .inl ⟨_, rfl, hc19⟩⟩ rfl ?_
        refine GL.val trivial rfl (OV.pickF (b := (((r10 : Int) == r12) && (r4 == r7)) && ((r5 : Int) == r8)) (v := .bool false) rfl hc19 rfl) ?_
        exact GL.jump (fun _ _ h => h) false h ⟨rfl, trivial⟩
    intro b16 H22 h
    replace h := hR18 b16 H22 h
    refine GL.val trivial rfl (OV.assign (v := .bool b16) rfl) ?_
    refine GL.nil ?_
    exact GC.ret (fun _ _ hf hs => post_tmp1 rfl rfl hf hs ⟨b16, rfl, h⟩)

def sh_law30_FrameFeeds (C : Ctx) (p_l : Sl) (K : Bool → Heap → Prop) (H : Heap) : Prop :=
  lp (α := Int × Int) ((Sl.len p_l : Int), 0) H (fun x1 J2 H3 =>
 ift ((decide ((x1.2 : Int) < (Sl.len p_l : Int))) && (decide ((x1.1 : Int) < 3000)))
 (ixa p_l x1.2 fun p6 =>
 ldL H3 (p6.1, p6.2 + (x1.2 : Int).toNat * 1) fun x11 =>
 J2 ((w .i64 (x1.1 + (Sl.len x11 : Int))), (w .i64 (x1.2 + 1))) H3)
 (ift (decide ((x1.1 : Int) ≥ 3000))
 (c_law30_awake C (fun r14 H15 =>
 K r14 H15) H3)
 (c_frame_New C (fun r16 H17 =>
 nw (T_ref30_Reader.c (⟨[], 0, 0⟩ : T_ref30_Reader)) (fun b18 H19 =>
 ift (Option.isNone r16)
 (K false H19)
 (lp (α := Int) 0 H19 (fun x21 J22 H23 =>
 ift (decide ((x21 : Int) < (Sl.len p_l : Int)))
 (nw ([]) (fun b25 H26 =>
 ixa p_l x21 fun p27 =>
 ldL H26 (p27.1, p27.2 + (x21 : Int).toNat * 1) fun x32 =>
 apS ([.int .u8 0]) 1 (Sl.of (some (b25, 0)) 0 0) x32 (fun r34 H35 =>
 c_frame_Reader_Feed C r16 r34 (fun r36 r37 H38 =>
 ixa p_l x21 fun p39 =>
 ldL H38 (p39.1, p39.2 + (x21 : Int).toNat * 1) fun x44 =>
 c_ref30_Reader_Feed C (some (b18, 0)) x44 (fun r46 r47 H48 =>
 jn (α := Bool) (fun x50 H51 =>
 ift x50
 (K false H51)
 (lp (α := Int) 0 H51 (fun x87 J88 H89 =>
 ift (decide ((x87 : Int) < (Sl.len r34 : Int)))
 (ixa r34 x87 fun p91 =>
 st (p91.1, p91.2 + (x87 : Int).toNat * 1) (.int .u8 238) (fun H96 =>
 J88 (w .i64 (x87 + 1)) H96) H89)
 (lp (α := Int) 0 H89 (fun x97 J98 H99 =>
 ift (decide ((x97 : Int) < (Sl.len r36 : Int)))
 (ixa r36 x97 fun p101 =>
 st (p101.1, p101.2 + (x97 : Int).toNat * 1) (sv [115, 112, 111, 105, 108, 116]) (fun H106 =>
 J98 (w .i64 (x97 + 1)) H106) H99)
 (J22 (w .i64 (x21 + 1)) H99))))))
 (fun J49 => dr H48 fun Hs53 =>
 ift ((r37 : Int) != r47)
 (J49 true H48)
 (c_ref30_Same C r36 r46 (fun r57 H58 =>
 Heap.le Hs53 H58 ∧
 ift (!r57)
 (J49 true H58)
 (b2s r34 (fun t60 =>
 ixa p_l x21 fun p63 =>
 ldL Hs53 (p63.1, p63.2 + (x21 : Int).toNat * 1) fun x68 =>
 b2s x68 (fun t70 =>
 ift (!(t60 == t70))
 (J49 true H58)
 (c_frame_Reader_Held C r16 (fun r75 H76 =>
 Heap.le Hs53 H76 ∧
 c_ref30_Reader_Held C (some (b18, 0)) (fun r78 H79 =>
 Heap.le Hs53 H79 ∧
 ift ((r75 : Int) != r78)
 (J49 true H79)
 (ldI Hs53 .i64 ((b18, 0).1, (b18, 0).2 + 2) fun x81 =>
 c_frame_Reader_Shut C r16 (fun r84 H85 =>
 Heap.le Hs53 H85 ∧
 J49 (!(r84 == ((x81 : Int) != 0))) H85) H79)) H76) H58)) Hs53) Hs53)) H48))) H38) H35) H26) H23)
 (c_law30_awake C (fun r107 H108 =>
 K r107 H108) H23)))) H17) H3)))

theorem ad_law30_FrameFeeds (C : Ctx) (p_l : Sl) (K : Bool → Heap → Prop) (H : Heap) (h : sh_law30_FrameFeeds C p_l K H) : c_law30_FrameFeeds C p_l K H := by
  refine Spec.enter Try.func4 rfl Try.ntmps4 rfl ?_
  refine GC.sub [(0, slv p_l)] ⟨rfl, trivial⟩ ?_
  refine GC.seq ?_
  refine GC.region ?_
  refine GL.val trivial rfl (OV.assign (v := .bool false) rfl) ?_
  refine GL.nil ?_
  refine GC.seq ?_
  refine GC.region ?_
  refine GL.val trivial rfl (OV.move (v := slv p_l) rfl) ?_
  refine GL.val trivial rfl (OV.lenSl (s := p_l) rfl rfl) ?_
  refine GL.val trivial rfl (OV.assign (v := .int .i64 (Sl.len p_l : Int)) rfl) ?_
  refine GL.nil ?_
  refine GC.seq ?_
  refine GC.seq ?_
  refine GC.region ?_
  refine GL.val trivial rfl (OV.assign (v := .int .i64 0) rfl) ?_
  refine GL.nil ?_
  refine GC.block ?_
  refine GC.loop (α := Int × Int) h (fun x1 => [(3, .int .i64 x1.1), (4, .int .i64 x1.2), (0, slv p_l)]) ⟨rfl, rfl, rfl, trivial⟩ ?_
  intro x1 H3 J2 h
  refine GC.seq ?_
  refine GC.seq ?_
  refine GC.region ?_
  refine GL.val trivial rfl (OV.move (v := .int .i64 x1.2) rfl) ?_
  refine GL.val trivial rfl (OV.move (v := slv p_l) rfl) ?_
  refine GL.val trivial rfl (OV.lenSl (s := p_l) rfl rfl) ?_
  refine GL.val trivial rfl (OV.ibin (v := .bool (decide ((x1.2 : Int) < (Sl.len p_l : Int)))) rfl rfl rfl) ?_
  refine GL.val trivial rfl (OV.move (v := .bool (decide ((x1.2 : Int) < (Sl.len p_l : Int)))) rfl) ?_
  refine GL.cut0 3 [(24, .bool ((decide ((x1.2 : Int) < (Sl.len p_l : Int))) && (decide ((x1.1 : Int) < 3000)))), (0, slv p_l), (3, .int .i64 x1.1), (4, .int .i64 x1.2)] ?_ ?_
  · rcases Bool.eq_false_or_eq_true (decide ((x1.2 : Int) < (Sl.len p_l : Int))) with hc4 | hc4
    · skip
      refine GL.val ⟨_, _, rfl, rfl, hc4⟩ rfl (OV.move (v := .int .i64 x1.1) rfl) ?_
      refine GL.val ⟨_, _, rfl, rfl, hc4⟩ rfl (OV.ibin (v := .bool (decide ((x1.1 : Int) < 3000))) rfl rfl rfl) ?_
      refine GL.val trivial rfl (OV.pickT (b := decide ((x1.2 : Int) < (Sl.len p_l : Int))) (v := .bool (decide ((x1.1 : Int) < 3000))) rfl hc4 rfl) ?_
      exact GL.jump0 (fun _ _ h => h) () rfl ⟨(by rw [hc4]; rfl), rfl, rfl, rfl, trivial⟩
    · skip
      refine GL.skip ⟨_, rfl, .inl ⟨_, rfl, hc4⟩⟩ rfl ?_
      refine GL.skip ⟨_, rfl, .inl ⟨_, rfl, hc4⟩⟩ rfl ?_
      refine GL.val trivial rfl (OV.pickF (b := decide ((x1.2 : Int) < (Sl.len p_l : Int))) (v := .bool false) rfl hc4 rfl) ?_
      exact GL.jump0 (fun _ _ h => h) () rfl ⟨(by rw [hc4]; rfl), rfl, rfl, rfl, trivial⟩
  refine GL.nil ?_
  refine GC.cond (b := (decide ((x1.2 : Int) < (Sl.len p_l : Int))) && (decide ((x1.1 : Int) < 3000))) rfl (fun hc5 => ?_) (fun hc5 => ?_)
  · replace h := And.left h hc5
    refine GC.skip ?_
    refine GC.seq ?_
    refine GC.block ?_
    refine GC.region ?_
    refine GL.val trivial rfl (OV.move (v := .int .i64 x1.1) rfl) ?_
    refine GL.val trivial rfl (OV.move (v := slv p_l) rfl) ?_
    refine GL.val trivial rfl (OV.move (v := .int .i64 x1.2) rfl) ?_
    obtain ⟨p6, ha7, hb8, hc9, hd10, h⟩ := h
    refine GL.val trivial rfl (OV.indexAddr (s := p_l) rfl rfl rfl rfl ha7 hb8 hc9 hd10) ?_
    obtain ⟨x11, hr12, h⟩ := h
    refine GL.val trivial rfl (OV.load (p := (p6.1, p6.2 + (x1.2 : Int).toNat * 1)) rfl rfl hr12) ?_
    refine GL.val trivial rfl (OV.lenSl (s := x11) rfl rfl) ?_
    refine GL.val trivial rfl (OV.ibin (v := .int .i64 (w .i64 (x1.1 + (Sl.len x11 : Int)))) rfl rfl rfl) ?_
    refine GL.val trivial rfl (OV.assign (v := .int .i64 (w .i64 (x1.1 + (Sl.len x11 : Int)))) rfl) ?_
    refine GL.nil_to (fun _ _ h => h) ?_
    refine GC.region ?_
    refine GL.val trivial rfl (OV.move (v := .int .i64 x1.2) rfl) ?_
    refine GL.val trivial rfl (OV.ibin (v := .int .i64 (w .i64 (x1.2 + 1))) rfl rfl rfl) ?_
    refine GL.val trivial rfl (OV.assign (v := .int .i64 (w .i64 (x1.2 + 1))) rfl) ?_
    exact GL.jump (fun _ _ h => h) ((w .i64 (x1.1 + (Sl.len x11 : Int))), (w .i64 (x1.2 + 1))) h ⟨rfl, rfl, rfl, trivial⟩
  · replace h := And.right h hc5
    refine GC.exit_to (fun _ _ h => h) ?_
    refine GC.seq ?_
    refine GC.seq ?_
    refine GC.region ?_
    refine GL.val trivial rfl (OV.move (v := .int .i64 x1.1) rfl) ?_
    refine GL.val trivial rfl (OV.ibin (v := .bool (decide ((x1.1 : Int) ≥ 3000))) rfl rfl rfl) ?_
    refine GL.nil ?_
    refine GC.cond (b := decide ((x1.1 : Int) ≥ 3000)) rfl (fun hc13 => ?_) (fun hc13 => ?_)
    · replace h := And.left h hc13
      refine GC.seq ?_
      refine GC.region ?_
      refine GL.call h trivial rfl ok_law30_awake (vs := []) rfl ?_
      rintro _ H15 ⟨r14, rfl, h⟩
      refine GL.val trivial rfl (OV.assign (v := .bool r14) rfl) ?_
      refine GL.nil ?_
      exact GC.ret (fun _ _ hf hs => post_tmp1 rfl rfl hf hs ⟨r14, rfl, h⟩)
    · replace h := And.right h hc13
      refine GC.skip ?_
      refine GC.seq ?_
      refine GC.region ?_
      refine GL.call h trivial rfl ok_frame_New (vs := []) rfl ?_
      rintro _ H17 ⟨r16, rfl, h⟩
      refine GL.val trivial rfl (OV.assign (v := pv r16) rfl) ?_
      refine GL.nil ?_
      refine GC.seq ?_
      refine GC.region ?_
      refine GL.val trivial rfl (OV.build (vs := []) (v := .agg (T_ref30_Reader.c (⟨[], 0, 0⟩ : T_ref30_Reader)).toArray) rfl (fun _ => by kernel_rfl)) ?_
      refine GL.box (v := .agg (T_ref30_Reader.c (⟨[], 0, 0⟩ : T_ref30_Reader)).toArray) (cs := T_ref30_Reader.c (⟨[], 0, 0⟩ : T_ref30_Reader)) h trivial rfl rfl rfl ?_
      intro b18 H19 h
      refine GL.val trivial rfl (OV.assign (v := pv (some (b18, 0))) rfl) ?_
      refine GL.nil ?_
      refine GC.seq ?_
      refine GC.seq ?_
      refine GC.region ?_
      refine GL.val trivial rfl (OV.move (v := pv r16) rfl) ?_
      refine GL.val trivial rfl (OV.eqlNil (p := r16) rfl rfl rfl) ?_
      refine GL.nil ?_
      refine GC.cond (b := Option.isNone r16) rfl (fun hc20 => ?_) (fun hc20 => ?_)
      · replace h := And.left h hc20
        refine GC.seq ?_
        refine GC.region ?_
        refine GL.val trivial rfl (OV.assign (v := .bool false) rfl) ?_
        refine GL.nil ?_
        exact GC.ret (fun _ _ hf hs => post_tmp1 rfl rfl hf hs ⟨false, rfl, h⟩)
      · replace h := And.right h hc20
        refine GC.skip ?_
        refine GC.seq ?_
        refine GC.seq ?_
        refine GC.region ?_
        refine GL.val trivial rfl (OV.assign (v := .int .i64 0) rfl) ?_
        refine GL.nil ?_
        refine GC.block ?_
        refine GC.loop (α := Int) h (fun x21 => [(7, .int .i64 x21), (0, slv p_l), (5, pv r16), (6, pv (some (b18, 0)))]) ⟨rfl, rfl, rfl, rfl, trivial⟩ ?_
        intro x21 H23 J22 h
        refine GC.seq ?_
        refine GC.seq ?_
        refine GC.region ?_
        refine GL.val trivial rfl (OV.move (v := .int .i64 x21) rfl) ?_
        refine GL.val trivial rfl (OV.move (v := slv p_l) rfl) ?_
        refine GL.val trivial rfl (OV.lenSl (s := p_l) rfl rfl) ?_
        refine GL.val trivial rfl (OV.ibin (v := .bool (decide ((x21 : Int) < (Sl.len p_l : Int)))) rfl rfl rfl) ?_
        refine GL.nil ?_
        refine GC.cond (b := decide ((x21 : Int) < (Sl.len p_l : Int))) rfl (fun hc24 => ?_) (fun hc24 => ?_)
        · replace h := And.left h hc24
          refine GC.skip ?_
          refine GC.seq ?_
          refine GC.block ?_
          refine GC.seq ?_
          refine GC.region ?_
          refine GL.buildSlice (cs := []) h trivial rfl (vs := []) rfl ⟨5, fun _ => by kernel_rfl⟩ ?_
          intro b25 H26 h
          refine GL.val trivial rfl (OV.move (v := slv p_l) rfl) ?_
          refine GL.val trivial rfl (OV.move (v := .int .i64 x21) rfl) ?_
          obtain ⟨p27, ha28, hb29, hc30, hd31, h⟩ := h
          refine GL.val trivial rfl (OV.indexAddr (s := p_l) rfl rfl rfl rfl ha28 hb29 hc30 hd31) ?_
          obtain ⟨x32, hr33, h⟩ := h
          refine GL.val trivial rfl (OV.load (p := (p27.1, p27.2 + (x21 : Int).toNat * 1)) rfl rfl hr33) ?_
          refine GL.appendS (s := (Sl.of (some (b25, 0)) 0 0)) (s2 := x32) (zc := [.int .u8 0]) (bytes := 1) h trivial rfl rfl rfl ⟨⟨_, _, _, rfl, rfl, rfl, rfl, rfl, rfl⟩⟩ rfl ?_
          intro r34 H35 h
          refine GL.val trivial rfl (OV.assign (v := slv r34) rfl) ?_
          refine GL.nil ?_
          refine GC.seq ?_
          refine GC.region ?_
          refine GL.val trivial rfl (OV.move (v := pv r16) rfl) ?_
          refine GL.val trivial rfl (OV.move (v := slv r34) rfl) ?_
          refine GL.call h trivial rfl ok_frame_Reader_Feed (vs := [pv r16, slv r34]) rfl ?_
          rintro _ H38 ⟨r36, r37, rfl, h⟩
          refine GL.val trivial rfl (OV.move (v := .tuple #[slv r36, .int .i64 r37]) rfl) ?_
          refine GL.val trivial rfl (OV.extract (v := slv r36) rfl rfl) ?_
          refine GL.val trivial rfl (OV.extract (v := .int .i64 r37) rfl rfl) ?_
          refine GL.val trivial rfl (OV.assign (v := slv r36) rfl) ?_
          refine GL.val trivial rfl (OV.assign (v := .int .i64 r37) rfl) ?_
          refine GL.nil ?_
          refine GC.seq ?_
          refine GC.region ?_
          refine GL.val trivial rfl (OV.move (v := pv (some (b18, 0))) rfl) ?_
          refine GL.val trivial rfl (OV.move (v := slv p_l) rfl) ?_
          refine GL.val trivial rfl (OV.move (v := .int .i64 x21) rfl) ?_
          obtain ⟨p39, ha40, hb41, hc42, hd43, h⟩ := h
          refine GL.val trivial rfl (OV.indexAddr (s := p_l) rfl rfl rfl rfl ha40 hb41 hc42 hd43) ?_
          obtain ⟨x44, hr45, h⟩ := h
          refine GL.val trivial rfl (OV.load (p := (p39.1, p39.2 + (x21 : Int).toNat * 1)) rfl rfl hr45) ?_
          refine GL.call h trivial rfl ok_ref30_Reader_Feed (vs := [pv (some (b18, 0)), slv x44]) rfl ?_
          rintro _ H48 ⟨r46, r47, rfl, h⟩
          refine GL.val trivial rfl (OV.move (v := .tuple #[slv r46, .int .i64 r47]) rfl) ?_
          refine GL.val trivial rfl (OV.extract (v := slv r46) rfl rfl) ?_
          refine GL.val trivial rfl (OV.extract (v := .int .i64 r47) rfl rfl) ?_
          refine GL.val trivial rfl (OV.assign (v := slv r46) rfl) ?_
          refine GL.val trivial rfl (OV.assign (v := .int .i64 r47) rfl) ?_
          refine GL.nil ?_
          refine GC.seq ?_
          refine GC.seq ?_
          obtain ⟨J49, h, hR52⟩ := h
          refine GC.meet (α := Bool) J49 (fun x50 => [(104, .bool x50), (0, slv p_l), (5, pv r16), (6, pv (some (b18, 0))), (7, .int .i64 x21), (8, slv r34), (9, slv r36)]) ?_ ?_
          · skip
            obtain ⟨Hs53, hle54, h⟩ := h
            refine GC.any (Hs := Hs53) (by kernel_rfl) hle54 ?_
            refine GA.take 0 rfl (by kernel_rfl) (by kernel_rfl) (by kernel_rfl) (fun _ _ _ h => by obtain ⟨_, _, _, h, _⟩ := h; cases h) trivial rfl (OV.move (v := .int .i64 r37) rfl) ?_
            refine GA.take 1 rfl (by kernel_rfl) (by kernel_rfl) (by kernel_rfl) (fun _ _ _ h => by obtain ⟨_, _, _, h, _⟩ := h; cases h) trivial rfl (OV.move (v := .int .i64 r47) rfl) ?_
            refine GA.take 2 rfl (by kernel_rfl) (by kernel_rfl) (by kernel_rfl) (fun _ _ _ h => by obtain ⟨_, _, _, h, _⟩ := h; cases h) trivial rfl (OV.ibin (v := .bool ((r37 : Int) != r47)) rfl rfl rfl) ?_
            refine GA.take 3 rfl (by kernel_rfl) (by kernel_rfl) (by kernel_rfl) (fun _ _ _ h => by obtain ⟨_, _, _, h, _⟩ := h; cases h) trivial rfl (OV.move (v := .bool ((r37 : Int) != r47)) rfl) ?_
            rcases Bool.eq_false_or_eq_true ((r37 : Int) != r47) with hc55 | hc55
            · replace h := And.left h hc55
              refine GA.skip 4 rfl (by kernel_rfl) (by kernel_rfl) (by kernel_rfl) (fun _ _ _ h => by obtain ⟨_, _, _, h, _⟩ := h; cases h) ⟨_, rfl, .inl ⟨_, rfl, hc55⟩⟩ rfl ?_
              refine GA.skip 5 rfl (by kernel_rfl) (by kernel_rfl) (by kernel_rfl) (fun _ _ _ h => by obtain ⟨_, _, _, h, _⟩ := h; cases h) ⟨_, rfl, .inl ⟨_, rfl, hc55⟩⟩ rfl ?_
              refine GA.skip 6 rfl (by kernel_rfl) (by kernel_rfl) (by kernel_rfl) (fun _ _ _ h => by obtain ⟨_, _, _, h, _⟩ := h; cases h) ⟨_, rfl, .inl ⟨_, rfl, hc55⟩⟩ rfl ?_
              refine GA.skip 7 rfl (by kernel_rfl) (by kernel_rfl) (by kernel_rfl) (fun _ _ _ h => by obtain ⟨_, _, _, h, _⟩ := h; cases h) ⟨_, rfl, .inl ⟨_, rfl, hc55⟩⟩ rfl ?_
              refine GA.take 8 rfl (by kernel_rfl) (by kernel_rfl) (by kernel_rfl) (fun _ _ _ h => by obtain ⟨_, _, _, h, _⟩ := h; cases h) trivial rfl (OV.pickT (b := (r37 : Int) != r47) (v := .bool true) rfl hc55 rfl) ?_
              refine GA.take 9 rfl (by kernel_rfl) (by kernel_rfl) (by kernel_rfl) (fun _ _ _ h => by obtain ⟨_, _, _, h, _⟩ := h; cases h) trivial rfl (OV.move (v := .bool true) rfl) ?_
              refine GA.skip 10 rfl (by kernel_rfl) (by kernel_rfl) (by kernel_rfl) (fun _ _ _ h => by obtain ⟨_, _, _, h, _⟩ := h; cases h) ⟨_, rfl, .inl ⟨_, rfl, rfl⟩⟩ rfl ?_
              refine GA.skip 11 rfl (by kernel_rfl) (by kernel_rfl) (by kernel_rfl) (fun _ _ _ h => by obtain ⟨_, _, _, h, _⟩ := h; cases h) ⟨_, rfl, .inl ⟨_, rfl, rfl⟩⟩ rfl ?_
              refine GA.skip 12 rfl (by kernel_rfl) (by kernel_rfl) (by kernel_rfl) (fun _ _ _ h => by obtain ⟨_, _, _, h, _⟩ := h; cases h) ⟨_, rfl, .inl ⟨_, rfl, rfl⟩⟩ rfl ?_
              refine GA.skip 13 rfl (by kernel_rfl) (by kernel_rfl) (by kernel_rfl) (fun _ _ _ h => by obtain ⟨_, _, _, h, _⟩ := h; cases h) ⟨_, rfl, .inl ⟨_, rfl, rfl⟩⟩ rfl ?_
              refine GA.skip 14 rfl (by kernel_rfl) (by kernel_rfl) (by kernel_rfl) (fun _ _ _ h => by obtain ⟨_, _, _, h, _⟩ := h; cases h) ⟨_, rfl, .inl ⟨_, rfl, rfl⟩⟩ rfl ?_
              refine GA.skip 15 rfl (by kernel_rfl) (by kernel_rfl) (by kernel_rfl) (fun _ _ _ h => by obtain ⟨_, _, _, h, _⟩ := h; cases h) ⟨_, rfl, .inl ⟨_, rfl, rfl⟩⟩ rfl ?_
              refine GA.skip 16 rfl (by kernel_rfl) (by kernel_rfl) (by kernel_rfl) (fun _ _ _ h => by obtain ⟨_, _, _, h, _⟩ := h; cases h) ⟨_, rfl, .inl ⟨_, rfl, rfl⟩⟩ rfl ?_
              refine GA.skip 17 rfl (by kernel_rfl) (by kernel_rfl) (by kernel_rfl) (fun _ _ _ h => by obtain ⟨_, _, _, h, _⟩ := h; cases h) ⟨_, rfl, .inl ⟨_, rfl, rfl⟩⟩ rfl ?_
              refine GA.take 18 rfl (by kernel_rfl) (by kernel_rfl) (by kernel_rfl) (fun _ _ _ h => by obtain ⟨_, _, _, h, _⟩ := h; cases h) trivial rfl (OV.pickT (b := true) (v := .bool true) rfl rfl rfl) ?_
              refine GA.take 19 rfl (by kernel_rfl) (by kernel_rfl) (by kernel_rfl) (fun _ _ _ h => by obtain ⟨_, _, _, h, _⟩ := h; cases h) trivial rfl (OV.move (v := .bool true) rfl) ?_
              refine GA.skip 20 rfl (by kernel_rfl) (by kernel_rfl) (by kernel_rfl) (fun _ _ _ h => by obtain ⟨_, _, _, h, _⟩ := h; cases h) ⟨_, rfl, .inl ⟨_, rfl, rfl⟩⟩ rfl ?_
              refine GA.skip 21 rfl (by kernel_rfl) (by kernel_rfl) (by kernel_rfl) (fun _ _ _ h => by obtain ⟨_, _, _, h, _⟩ := h; cases h) ⟨_, rfl, .inl ⟨_, rfl, rfl⟩⟩ rfl ?_
              refine GA.skip 22 rfl (by kernel_rfl) (by kernel_rfl) (by kernel_rfl) (fun _ _ _ h => by obtain ⟨_, _, _, h, _⟩ := h; cases h) ⟨_, rfl, .inl ⟨_, rfl, rfl⟩⟩ rfl ?_
              refine GA.skip 23 rfl (by kernel_rfl) (by kernel_rfl) (by kernel_rfl) (fun _ _ _ h => by obtain ⟨_, _, _, h, _⟩ := h; cases h) ⟨_, rfl, .inl ⟨_, rfl, rfl⟩⟩ rfl ?_
              refine GA.skip 24 rfl (by kernel_rfl) (by kernel_rfl) (by kernel_rfl) (fun _ _ _ h => by obtain ⟨_, _, _, h, _⟩ := h; cases h) ⟨_, rfl, .inl ⟨_, rfl, rfl⟩⟩ rfl ?_
              refine GA.take 25 rfl (by kernel_rfl) (by kernel_rfl) (by kernel_rfl) (fun _ _ _ h => by obtain ⟨_, _, _, h, _⟩ := h; cases h) trivial rfl (OV.pickT (b := true) (v := .bool true) rfl rfl rfl) ?_
              refine GA.take 26 rfl (by kernel_rfl) (by kernel_rfl) (by kernel_rfl) (fun _ _ _ h => by obtain ⟨_, _, _, h, _⟩ := h; cases h) trivial rfl (OV.move (v := .bool true) rfl) ?_
              refine GA.skip 27 rfl (by kernel_rfl) (by kernel_rfl) (by kernel_rfl) (fun _ _ _ h => by obtain ⟨_, _, _, h, _⟩ := h; cases h) ⟨_, rfl, .inl ⟨_, rfl, rfl⟩⟩ rfl ?_
              refine GA.skip 28 rfl (by kernel_rfl) (by kernel_rfl) (by kernel_rfl) (fun _ _ _ h => by obtain ⟨_, _, _, h, _⟩ := h; cases h) ⟨_, rfl, .inl ⟨_, rfl, rfl⟩⟩ rfl ?_
              refine GA.skip 29 rfl (by kernel_rfl) (by kernel_rfl) (by kernel_rfl) (fun _ _ _ h => by obtain ⟨_, _, _, h, _⟩ := h; cases h) ⟨_, rfl, .inl ⟨_, rfl, rfl⟩⟩ rfl ?_
              refine GA.skip 30 rfl (by kernel_rfl) (by kernel_rfl) (by kernel_rfl) (fun _ _ _ h => by obtain ⟨_, _, _, h, _⟩ := h; cases h) ⟨_, rfl, .inl ⟨_, rfl, rfl⟩⟩ rfl ?_
              refine GA.skip 31 rfl (by kernel_rfl) (by kernel_rfl) (by kernel_rfl) (fun _ _ _ h => by obtain ⟨_, _, _, h, _⟩ := h; cases h) ⟨_, rfl, .inl ⟨_, rfl, rfl⟩⟩ rfl ?_
              refine GA.skip 32 rfl (by kernel_rfl) (by kernel_rfl) (by kernel_rfl) (fun _ _ _ h => by obtain ⟨_, _, _, h, _⟩ := h; cases h) ⟨_, rfl, .inl ⟨_, rfl, rfl⟩⟩ rfl ?_
              refine GA.skip 33 rfl (by kernel_rfl) (by kernel_rfl) (by kernel_rfl) (fun _ _ _ h => by obtain ⟨_, _, _, h, _⟩ := h; cases h) ⟨_, rfl, .inl ⟨_, rfl, rfl⟩⟩ rfl ?_
              refine GA.skip 34 rfl (by kernel_rfl) (by kernel_rfl) (by kernel_rfl) (fun _ _ _ h => by obtain ⟨_, _, _, h, _⟩ := h; cases h) ⟨_, rfl, .inl ⟨_, rfl, rfl⟩⟩ rfl ?_
              refine GA.take 35 rfl (by kernel_rfl) (by kernel_rfl) (by kernel_rfl) (fun _ _ _ h => by obtain ⟨_, _, _, h, _⟩ := h; cases h) trivial rfl (OV.pickT (b := true) (v := .bool true) rfl rfl rfl) ?_
              refine GA.done (by kernel_rfl) ?_
              exact GL.jump (fun _ _ h => h) true h ⟨rfl, rfl, rfl, rfl, rfl, rfl, rfl, trivial⟩
            · replace h := And.right h hc55
              refine GA.take 4 rfl (by kernel_rfl) (by kernel_rfl) (by kernel_rfl) (fun _ _ _ h => by obtain ⟨_, _, _, h, _⟩ := h; cases h) ⟨_, _, rfl, rfl, hc55⟩ rfl (OV.move (v := slv r36) rfl) ?_
              refine GA.take 5 rfl (by kernel_rfl) (by kernel_rfl) (by kernel_rfl) (fun _ _ _ h => by obtain ⟨_, _, _, h, _⟩ := h; cases h) ⟨_, _, rfl, rfl, hc55⟩ rfl (OV.move (v := slv r46) rfl) ?_
              refine GA.eff 6 rfl (by kernel_rfl) ?_
              refine GL.call h ⟨_, _, rfl, rfl, hc55⟩ rfl ok_ref30_Same (vs := [slv r36, slv r46]) rfl ?_
              rintro _ H58 ⟨r57, rfl, h⟩
              obtain ⟨hle56, h⟩ := h
              refine GA.back hle56 ?_
              refine GA.take 7 rfl (by kernel_rfl) (by kernel_rfl) (by kernel_rfl) (fun _ _ _ h => by obtain ⟨_, _, _, h, _⟩ := h; cases h) ⟨_, _, rfl, rfl, hc55⟩ rfl (OV.not rfl) ?_
              refine GA.take 8 rfl (by kernel_rfl) (by kernel_rfl) (by kernel_rfl) (fun _ _ _ h => by obtain ⟨_, _, _, h, _⟩ := h; cases h) trivial rfl (OV.pickF (b := (r37 : Int) != r47) (v := .bool (!r57)) rfl hc55 rfl) ?_
              refine GA.take 9 rfl (by kernel_rfl) (by kernel_rfl) (by kernel_rfl) (fun _ _ _ h => by obtain ⟨_, _, _, h, _⟩ := h; cases h) trivial rfl (OV.move (v := .bool (!r57)) rfl) ?_
              rcases Bool.eq_false_or_eq_true (!r57) with hc59 | hc59
              · replace h := And.left h hc59
                refine GA.skip 10 rfl (by kernel_rfl) (by kernel_rfl) (by kernel_rfl) (fun _ _ _ h => by obtain ⟨_, _, _, h, _⟩ := h; cases h) ⟨_, rfl, .inl ⟨_, rfl, hc59⟩⟩ rfl ?_
                refine GA.skip 11 rfl (by kernel_rfl) (by kernel_rfl) (by kernel_rfl) (fun _ _ _ h => by obtain ⟨_, _, _, h, _⟩ := h; cases h) ⟨_, rfl, .inl ⟨_, rfl, hc59⟩⟩ rfl ?_
                refine GA.skip 12 rfl (by kernel_rfl) (by kernel_rfl) (by kernel_rfl) (fun _ _ _ h => by obtain ⟨_, _, _, h, _⟩ := h; cases h) ⟨_, rfl, .inl ⟨_, rfl, hc59⟩⟩ rfl ?_
                refine GA.skip 13 rfl (by kernel_rfl) (by kernel_rfl) (by kernel_rfl) (fun _ _ _ h => by obtain ⟨_, _, _, h, _⟩ := h; cases h) ⟨_, rfl, .inl ⟨_, rfl, hc59⟩⟩ rfl ?_
                refine GA.skip 14 rfl (by kernel_rfl) (by kernel_rfl) (by kernel_rfl) (fun _ _ _ h => by obtain ⟨_, _, _, h, _⟩ := h; cases h) ⟨_, rfl, .inl ⟨_, rfl, hc59⟩⟩ rfl ?_
                refine GA.skip 15 rfl (by kernel_rfl) (by kernel_rfl) (by kernel_rfl) (fun _ _ _ h => by obtain ⟨_, _, _, h, _⟩ := h; cases h) ⟨_, rfl, .inl ⟨_, rfl, hc59⟩⟩ rfl ?_
                refine GA.skip 16 rfl (by kernel_rfl) (by kernel_rfl) (by kernel_rfl) (fun _ _ _ h => by obtain ⟨_, _, _, h, _⟩ := h; cases h) ⟨_, rfl, .inl ⟨_, rfl, hc59⟩⟩ rfl ?_
                refine GA.skip 17 rfl (by kernel_rfl) (by kernel_rfl) (by kernel_rfl) (fun _ _ _ h => by obtain ⟨_, _, _, h, _⟩ := h; cases h) ⟨_, rfl, .inl ⟨_, rfl, hc59⟩⟩ rfl ?_
                refine GA.take 18 rfl (by kernel_rfl) (by kernel_rfl) (by kernel_rfl) (fun _ _ _ h => by obtain ⟨_, _, _, h, _⟩ := h; cases h) trivial rfl (OV.pickT (b := !r57) (v := .bool true) rfl hc59 rfl) ?_
                refine GA.take 19 rfl (by kernel_rfl) (by kernel_rfl) (by kernel_rfl) (fun _ _ _ h => by obtain ⟨_, _, _, h, _⟩ := h; cases h) trivial rfl (OV.move (v := .bool true) rfl) ?_
                refine GA.skip 20 rfl (by kernel_rfl) (by kernel_rfl) (by kernel_rfl) (fun _ _ _ h => by obtain ⟨_, _, _, h, _⟩ := h; cases h) ⟨_, rfl, .inl ⟨_, rfl, rfl⟩⟩ rfl ?_
                refine GA.skip 21 rfl (by kernel_rfl) (by kernel_rfl) (by kernel_rfl) (fun _ _ _ h => by obtain ⟨_, _, _, h, _⟩ := h; cases h) ⟨_, rfl, .inl ⟨_, rfl, rfl⟩⟩ rfl ?_
                refine GA.skip 22 rfl (by kernel_rfl) (by kernel_rfl) (by kernel_rfl) (fun _ _ _ h => by obtain ⟨_, _, _, h, _⟩ := h; cases h) ⟨_, rfl, .inl ⟨_, rfl, rfl⟩⟩ rfl ?_
                refine GA.skip 23 rfl (by kernel_rfl) (by kernel_rfl) (by kernel_rfl) (fun _ _ _ h => by obtain ⟨_, _, _, h, _⟩ := h; cases h) ⟨_, rfl, .inl ⟨_, rfl, rfl⟩⟩ rfl ?_
                refine GA.skip 24 rfl (by kernel_rfl) (by kernel_rfl) (by kernel_rfl) (fun _ _ _ h => by obtain ⟨_, _, _, h, _⟩ := h; cases h) ⟨_, rfl, .inl ⟨_, rfl, rfl⟩⟩ rfl ?_
                refine GA.take 25 rfl (by kernel_rfl) (by kernel_rfl) (by kernel_rfl) (fun _ _ _ h => by obtain ⟨_, _, _, h, _⟩ := h; cases h) trivial rfl (OV.pickT (b := true) (v := .bool true) rfl rfl rfl) ?_
                refine GA.take 26 rfl (by kernel_rfl) (by kernel_rfl) (by kernel_rfl) (fun _ _ _ h => by obtain ⟨_, _, _, h, _⟩ := h; cases h) trivial rfl (OV.move (v := .bool true) rfl) ?_
                refine GA.skip 27 rfl (by kernel_rfl) (by kernel_rfl) (by kernel_rfl) (fun _ _ _ h => by obtain ⟨_, _, _, h, _⟩ := h; cases h) ⟨_, rfl, .inl ⟨_, rfl, rfl⟩⟩ rfl ?_
                refine GA.skip 28 rfl (by kernel_rfl) (by kernel_rfl) (by kernel_rfl) (fun _ _ _ h => by obtain ⟨_, _, _, h, _⟩ := h; cases h) ⟨_, rfl, .inl ⟨_, rfl, rfl⟩⟩ rfl ?_
                refine GA.skip 29 rfl (by kernel_rfl) (by kernel_rfl) (by kernel_rfl) (fun _ _ _ h => by obtain ⟨_, _, _, h, _⟩ := h; cases h) ⟨_, rfl, .inl ⟨_, rfl, rfl⟩⟩ rfl ?_
                refine GA.skip 30 rfl (by kernel_rfl) (by kernel_rfl) (by kernel_rfl) (fun _ _ _ h => by obtain ⟨_, _, _, h, _⟩ := h; cases h) ⟨_, rfl, .inl ⟨_, rfl, rfl⟩⟩ rfl ?_
                refine GA.skip 31 rfl (by kernel_rfl) (by kernel_rfl) (by kernel_rfl) (fun _ _ _ h => by obtain ⟨_, _, _, h, _⟩ := h; cases h) ⟨_, rfl, .inl ⟨_, rfl, rfl⟩⟩ rfl ?_
                refine GA.skip 32 rfl (by kernel_rfl) (by kernel_rfl) (by kernel_rfl) (fun _ _ _ h => by obtain ⟨_, _, _, h, _⟩ := h; cases h) ⟨_, rfl, .inl ⟨_, rfl, rfl⟩⟩ rfl ?_
                refine GA.skip 33 rfl (by kernel_rfl) (by kernel_rfl) (by kernel_rfl) (fun _ _ _ h => by obtain ⟨_, _, _, h, _⟩ := h; cases h) ⟨_, rfl, .inl ⟨_, rfl, rfl⟩⟩ rfl ?_
                refine GA.skip 34 rfl (by kernel_rfl) (by kernel_rfl) (by kernel_rfl) (fun _ _ _ h => by obtain ⟨_, _, _, h, _⟩ := h; cases h) ⟨_, rfl, .inl ⟨_, rfl, rfl⟩⟩ rfl ?_
                refine GA.take 35 rfl (by kernel_rfl) (by kernel_rfl) (by kernel_rfl) (fun _ _ _ h => by obtain ⟨_, _, _, h, _⟩ := h; cases h) trivial rfl (OV.pickT (b := true) (v := .bool true) rfl rfl rfl) ?_
                refine GA.done (by kernel_rfl) ?_
                exact GL.jump (fun _ _ h => h) true h ⟨rfl, rfl, rfl, rfl, rfl, rfl, rfl, trivial⟩
              · replace h := And.right h hc59
                refine GA.take 10 rfl (by kernel_rfl) (by kernel_rfl) (by kernel_rfl) (fun _ _ _ h => by obtain ⟨_, _, _, h, _⟩ := h; cases h) ⟨_, _, rfl, rfl, hc59⟩ rfl (OV.move (v := slv r34) rfl) ?_
                obtain ⟨t60, h61, h62, h⟩ := h
                refine GA.take 11 rfl (by kernel_rfl) (by kernel_rfl) (by kernel_rfl) (fun _ _ _ h => by obtain ⟨_, _, _, h, _⟩ := h; cases h) ⟨_, _, rfl, rfl, hc59⟩ rfl (OV.b2s (b := r34) (s := t60) h61 h62 rfl rfl rfl rfl) ?_
                refine GA.take 12 rfl (by kernel_rfl) (by kernel_rfl) (by kernel_rfl) (fun _ _ _ h => by obtain ⟨_, _, _, h, _⟩ := h; cases h) ⟨_, _, rfl, rfl, hc59⟩ rfl (OV.move (v := slv p_l) rfl) ?_
                refine GA.take 13 rfl (by kernel_rfl) (by kernel_rfl) (by kernel_rfl) (fun _ _ _ h => by obtain ⟨_, _, _, h, _⟩ := h; cases h) ⟨_, _, rfl, rfl, hc59⟩ rfl (OV.move (v := .int .i64 x21) rfl) ?_
                obtain ⟨p63, ha64, hb65, hc66, hd67, h⟩ := h
                refine GA.take 14 rfl (by kernel_rfl) (by kernel_rfl) (by kernel_rfl) (fun _ _ _ h => by obtain ⟨_, _, _, h, _⟩ := h; cases h) ⟨_, _, rfl, rfl, hc59⟩ rfl (OV.indexAddr (s := p_l) rfl rfl rfl rfl ha64 hb65 hc66 hd67) ?_
                obtain ⟨x68, hr69, h⟩ := h
                refine GA.take 15 rfl (by kernel_rfl) (by kernel_rfl) (by kernel_rfl) (fun _ _ _ h => by obtain ⟨_, _, _, h, _⟩ := h; cases h) ⟨_, _, rfl, rfl, hc59⟩ rfl (OV.load (p := (p63.1, p63.2 + (x21 : Int).toNat * 1)) rfl rfl hr69) ?_
                obtain ⟨t70, h71, h72, h⟩ := h
                refine GA.take 16 rfl (by kernel_rfl) (by kernel_rfl) (by kernel_rfl) (fun _ _ _ h => by obtain ⟨_, _, _, h, _⟩ := h; cases h) ⟨_, _, rfl, rfl, hc59⟩ rfl (OV.b2s (b := x68) (s := t70) h71 h72 rfl rfl rfl rfl) ?_
                refine GA.take 17 rfl (by kernel_rfl) (by kernel_rfl) (by kernel_rfl) (fun _ _ _ h => by obtain ⟨_, _, _, h, _⟩ := h; cases h) ⟨_, _, rfl, rfl, hc59⟩ rfl (OV.sbin (a := t60) (b := t70) (v := .bool (!(t60 == t70))) rfl rfl rfl) ?_
                refine GA.take 18 rfl (by kernel_rfl) (by kernel_rfl) (by kernel_rfl) (fun _ _ _ h => by obtain ⟨_, _, _, h, _⟩ := h; cases h) trivial rfl (OV.pickF (b := !r57) (v := .bool (!(t60 == t70))) rfl hc59 rfl) ?_
                refine GA.take 19 rfl (by kernel_rfl) (by kernel_rfl) (by kernel_rfl) (fun _ _ _ h => by obtain ⟨_, _, _, h, _⟩ := h; cases h) trivial rfl (OV.move (v := .bool (!(t60 == t70))) rfl) ?_
                rcases Bool.eq_false_or_eq_true (!(t60 == t70)) with hc73 | hc73
                · replace h := And.left h hc73
                  refine GA.skip 20 rfl (by kernel_rfl) (by kernel_rfl) (by kernel_rfl) (fun _ _ _ h => by obtain ⟨_, _, _, h, _⟩ := h; cases h) ⟨_, rfl, .inl ⟨_, rfl, hc73⟩⟩ rfl ?_
                  refine GA.skip 21 rfl (by kernel_rfl) (by kernel_rfl) (by kernel_rfl) (fun _ _ _ h => by obtain ⟨_, _, _, h, _⟩ := h; cases h) ⟨_, rfl, .inl ⟨_, rfl, hc73⟩⟩ rfl ?_
                  refine GA.skip 22 rfl (by kernel_rfl) (by kernel_rfl) (by kernel_rfl) (fun _ _ _ h => by obtain ⟨_, _, _, h, _⟩ := h; cases h) ⟨_, rfl, .inl ⟨_, rfl, hc73⟩⟩ rfl ?_
                  refine GA.skip 23 rfl (by kernel_rfl) (by kernel_rfl) (by kernel_rfl) (fun _ _ _ h => by obtain ⟨_, _, _, h, _⟩ := h; cases h) ⟨_, rfl, .inl ⟨_, rfl, hc73⟩⟩ rfl ?_
                  refine GA.skip 24 rfl (by kernel_rfl) (by kernel_rfl) (by kernel_rfl) (fun _ _ _ h => by obtain ⟨_, _, _, h, _⟩ := h; cases h) ⟨_, rfl, .inl ⟨_, rfl, hc73⟩⟩ rfl ?_
                  refine GA.take 25 rfl (by kernel_rfl) (by kernel_rfl) (by kernel_rfl) (fun _ _ _ h => by obtain ⟨_, _, _, h, _⟩ := h; cases h) trivial rfl (OV.pickT (b := !(t60 == t70)) (v := .bool true) rfl hc73 rfl) ?_
                  refine GA.take 26 rfl (by kernel_rfl) (by kernel_rfl) (by kernel_rfl) (fun _ _ _ h => by obtain ⟨_, _, _, h, _⟩ := h; cases h) trivial rfl (OV.move (v := .bool true) rfl) ?_
                  refine GA.skip 27 rfl (by kernel_rfl) (by kernel_rfl) (by kernel_rfl) (fun _ _ _ h => by obtain ⟨_, _, _, h, _⟩ := h; cases h) ⟨_, rfl, .inl ⟨_, rfl, rfl⟩⟩ rfl ?_
                  refine GA.skip 28 rfl (by kernel_rfl) (by kernel_rfl) (by kernel_rfl) (fun _ _ _ h => by obtain ⟨_, _, _, h, _⟩ := h; cases h) ⟨_, rfl, .inl ⟨_, rfl, rfl⟩⟩ rfl ?_
                  refine GA.skip 29 rfl (by kernel_rfl) (by kernel_rfl) (by kernel_rfl) (fun _ _ _ h => by obtain ⟨_, _, _, h, _⟩ := h; cases h) ⟨_, rfl, .inl ⟨_, rfl, rfl⟩⟩ rfl ?_
                  refine GA.skip 30 rfl (by kernel_rfl) (by kernel_rfl) (by kernel_rfl) (fun _ _ _ h => by obtain ⟨_, _, _, h, _⟩ := h; cases h) ⟨_, rfl, .inl ⟨_, rfl, rfl⟩⟩ rfl ?_
                  refine GA.skip 31 rfl (by kernel_rfl) (by kernel_rfl) (by kernel_rfl) (fun _ _ _ h => by obtain ⟨_, _, _, h, _⟩ := h; cases h) ⟨_, rfl, .inl ⟨_, rfl, rfl⟩⟩ rfl ?_
                  refine GA.skip 32 rfl (by kernel_rfl) (by kernel_rfl) (by kernel_rfl) (fun _ _ _ h => by obtain ⟨_, _, _, h, _⟩ := h; cases h) ⟨_, rfl, .inl ⟨_, rfl, rfl⟩⟩ rfl ?_
                  refine GA.skip 33 rfl (by kernel_rfl) (by kernel_rfl) (by kernel_rfl) (fun _ _ _ h => by obtain ⟨_, _, _, h, _⟩ := h; cases h) ⟨_, rfl, .inl ⟨_, rfl, rfl⟩⟩ rfl ?_
                  refine GA.skip 34 rfl (by kernel_rfl) (by kernel_rfl) (by kernel_rfl) (fun _ _ _ h => by obtain ⟨_, _, _, h, _⟩ := h; cases h) ⟨_, rfl, .inl ⟨_, rfl, rfl⟩⟩ rfl ?_
                  refine GA.take 35 rfl (by kernel_rfl) (by kernel_rfl) (by kernel_rfl) (fun _ _ _ h => by obtain ⟨_, _, _, h, _⟩ := h; cases h) trivial rfl (OV.pickT (b := true) (v := .bool true) rfl rfl rfl) ?_
                  refine GA.done (by kernel_rfl) ?_
                  exact GL.jump (fun _ _ h => h) true h ⟨rfl, rfl, rfl, rfl, rfl, rfl, rfl, trivial⟩
                · replace h := And.right h hc73
                  refine GA.take 20 rfl (by kernel_rfl) (by kernel_rfl) (by kernel_rfl) (fun _ _ _ h => by obtain ⟨_, _, _, h, _⟩ := h; cases h) ⟨_, _, rfl, rfl, hc73⟩ rfl (OV.move (v := pv r16) rfl) ?_
                  refine GA.take 22 rfl (by kernel_rfl) (by kernel_rfl) (by kernel_rfl) (fun _ _ _ h => by obtain ⟨_, _, _, h, _⟩ := h; cases h) ⟨_, _, rfl, rfl, hc73⟩ rfl (OV.move (v := pv (some (b18, 0))) rfl) ?_
                  refine GA.eff 21 rfl (by kernel_rfl) ?_
                  refine GL.call h ⟨_, _, rfl, rfl, hc73⟩ rfl ok_frame_Reader_Held (vs := [pv r16]) rfl ?_
                  rintro _ H76 ⟨r75, rfl, h⟩
                  obtain ⟨hle74, h⟩ := h
                  refine GA.back hle74 ?_
                  refine GA.eff 23 rfl (by kernel_rfl) ?_
                  refine GL.call h ⟨_, _, rfl, rfl, hc73⟩ rfl ok_ref30_Reader_Held (vs := [pv (some (b18, 0))]) rfl ?_
                  rintro _ H79 ⟨r78, rfl, h⟩
                  obtain ⟨hle77, h⟩ := h
                  refine GA.back hle77 ?_
                  refine GA.take 24 rfl (by kernel_rfl) (by kernel_rfl) (by kernel_rfl) (fun _ _ _ h => by obtain ⟨_, _, _, h, _⟩ := h; cases h) ⟨_, _, rfl, rfl, hc73⟩ rfl (OV.ibin (v := .bool ((r75 : Int) != r78)) rfl rfl rfl) ?_
                  refine GA.take 25 rfl (by kernel_rfl) (by kernel_rfl) (by kernel_rfl) (fun _ _ _ h => by obtain ⟨_, _, _, h, _⟩ := h; cases h) trivial rfl (OV.pickF (b := !(t60 == t70)) (v := .bool ((r75 : Int) != r78)) rfl hc73 rfl) ?_
                  refine GA.take 26 rfl (by kernel_rfl) (by kernel_rfl) (by kernel_rfl) (fun _ _ _ h => by obtain ⟨_, _, _, h, _⟩ := h; cases h) trivial rfl (OV.move (v := .bool ((r75 : Int) != r78)) rfl) ?_
                  rcases Bool.eq_false_or_eq_true ((r75 : Int) != r78) with hc80 | hc80
                  · replace h := And.left h hc80
                    refine GA.skip 27 rfl (by kernel_rfl) (by kernel_rfl) (by kernel_rfl) (fun _ _ _ h => by obtain ⟨_, _, _, h, _⟩ := h; cases h) ⟨_, rfl, .inl ⟨_, rfl, hc80⟩⟩ rfl ?_
                    refine GA.skip 28 rfl (by kernel_rfl) (by kernel_rfl) (by kernel_rfl) (fun _ _ _ h => by obtain ⟨_, _, _, h, _⟩ := h; cases h) ⟨_, rfl, .inl ⟨_, rfl, hc80⟩⟩ rfl ?_
                    refine GA.skip 29 rfl (by kernel_rfl) (by kernel_rfl) (by kernel_rfl) (fun _ _ _ h => by obtain ⟨_, _, _, h, _⟩ := h; cases h) ⟨_, rfl, .inl ⟨_, rfl, hc80⟩⟩ rfl ?_
                    refine GA.skip 30 rfl (by kernel_rfl) (by kernel_rfl) (by kernel_rfl) (fun _ _ _ h => by obtain ⟨_, _, _, h, _⟩ := h; cases h) ⟨_, rfl, .inl ⟨_, rfl, hc80⟩⟩ rfl ?_
                    refine GA.skip 31 rfl (by kernel_rfl) (by kernel_rfl) (by kernel_rfl) (fun _ _ _ h => by obtain ⟨_, _, _, h, _⟩ := h; cases h) ⟨_, rfl, .inl ⟨_, rfl, hc80⟩⟩ rfl ?_
                    refine GA.skip 32 rfl (by kernel_rfl) (by kernel_rfl) (by kernel_rfl) (fun _ _ _ h => by obtain ⟨_, _, _, h, _⟩ := h; cases h) ⟨_, rfl, .inl ⟨_, rfl, hc80⟩⟩ rfl ?_
                    refine GA.skip 33 rfl (by kernel_rfl) (by kernel_rfl) (by kernel_rfl) (fun _ _ _ h => by obtain ⟨_, _, _, h, _⟩ := h; cases h) ⟨_, rfl, .inl ⟨_, rfl, hc80⟩⟩ rfl ?_
                    refine GA.skip 34 rfl (by kernel_rfl) (by kernel_rfl) (by kernel_rfl) (fun _ _ _ h => by obtain ⟨_, _, _, h, _⟩ := h; cases h) ⟨_, rfl, .inl ⟨_, rfl, hc80⟩⟩ rfl ?_
                    refine GA.take 35 rfl (by kernel_rfl) (by kernel_rfl) (by kernel_rfl) (fun _ _ _ h => by obtain ⟨_, _, _, h, _⟩ := h; cases h) trivial rfl (OV.pickT (b := (r75 : Int) != r78) (v := .bool true) rfl hc80 rfl) ?_
                    refine GA.done (by kernel_rfl) ?_
                    exact GL.jump (fun _ _ h => h) true h ⟨rfl, rfl, rfl, rfl, rfl, rfl, rfl, trivial⟩
                  · replace h := And.right h hc80
                    refine GA.take 27 rfl (by kernel_rfl) (by kernel_rfl) (by kernel_rfl) (fun _ _ _ h => by obtain ⟨_, _, _, h, _⟩ := h; cases h) ⟨_, _, rfl, rfl, hc80⟩ rfl (OV.move (v := pv r16) rfl) ?_
                    refine GA.take 29 rfl (by kernel_rfl) (by kernel_rfl) (by kernel_rfl) (fun _ _ _ h => by obtain ⟨_, _, _, h, _⟩ := h; cases h) ⟨_, _, rfl, rfl, hc80⟩ rfl (OV.move (v := pv (some (b18, 0))) rfl) ?_
                    refine GA.take 30 rfl (by kernel_rfl) (by kernel_rfl) (by kernel_rfl) (fun _ _ _ h => by obtain ⟨_, _, _, h, _⟩ := h; cases h) ⟨_, _, rfl, rfl, hc80⟩ rfl (OV.nilCheck (q := some (b18, 0)) rfl rfl) ?_
                    refine GA.take 31 rfl (by kernel_rfl) (by kernel_rfl) (by kernel_rfl) (fun _ _ _ h => by obtain ⟨_, _, _, h, _⟩ := h; cases h) ⟨_, _, rfl, rfl, hc80⟩ rfl (OV.fieldAddr (p := (b18, 0)) rfl rfl) ?_
                    obtain ⟨x81, hr82, h⟩ := h
                    refine GA.take 32 rfl (by kernel_rfl) (by kernel_rfl) (by kernel_rfl) (fun _ _ _ h => by obtain ⟨_, _, _, h, _⟩ := h; cases h) ⟨_, _, rfl, rfl, hc80⟩ rfl (OV.load (p := ((b18, 0).1, (b18, 0).2 + 2)) rfl rfl hr82) ?_
                    refine GA.take 33 rfl (by kernel_rfl) (by kernel_rfl) (by kernel_rfl) (fun _ _ _ h => by obtain ⟨_, _, _, h, _⟩ := h; cases h) ⟨_, _, rfl, rfl, hc80⟩ rfl (OV.ibin (v := .bool ((x81 : Int) != 0)) rfl rfl rfl) ?_
                    refine GA.eff 28 rfl (by kernel_rfl) ?_
                    refine GL.call h ⟨_, _, rfl, rfl, hc80⟩ rfl ok_frame_Reader_Shut (vs := [pv r16]) rfl ?_
                    rintro _ H85 ⟨r84, rfl, h⟩
                    obtain ⟨hle83, h⟩ := h
                    refine GA.back hle83 ?_
                    refine GA.take 34 rfl (by kernel_rfl) (by kernel_rfl) (by kernel_rfl) (fun _ _ _ h => by obtain ⟨_, _, _, h, _⟩ := h; cases h) ⟨_, _, rfl, rfl, hc80⟩ rfl (OV.neqBool rfl rfl rfl) ?_
                    refine GA.take 35 rfl (by kernel_rfl) (by kernel_rfl) (by kernel_rfl) (fun _ _ _ h => by obtain ⟨_, _, _, h, _⟩ := h; cases h) trivial rfl (OV.pickF (b := (r75 : Int) != r78) (v := .bool (!(r84 == ((x81 : Int) != 0)))) rfl hc80 rfl) ?_
                    refine GA.done (by kernel_rfl) ?_
                    exact GL.jump (fun _ _ h => h) (!(r84 == ((x81 : Int) != 0))) h ⟨rfl, rfl, rfl, rfl, rfl, rfl, rfl, trivial⟩
          · intro x50 H51 h
            replace h := hR52 x50 H51 h
            refine GL.nil ?_
            refine GC.cond (b := x50) rfl (fun hc86 => ?_) (fun hc86 => ?_)
            · replace h := And.left h hc86
              refine GC.seq ?_
              refine GC.region ?_
              refine GL.val trivial rfl (OV.assign (v := .bool false) rfl) ?_
              refine GL.nil ?_
              exact GC.ret (fun _ _ hf hs => post_tmp1 rfl rfl hf hs ⟨false, rfl, h⟩)
            · replace h := And.right h hc86
              refine GC.skip ?_
              refine GC.seq ?_
              refine GC.seq ?_
              refine GC.region ?_
              refine GL.val trivial rfl (OV.assign (v := .int .i64 0) rfl) ?_
              refine GL.nil ?_
              refine GC.block ?_
              refine GC.loop (α := Int) h (fun x87 => [(13, .int .i64 x87), (0, slv p_l), (5, pv r16), (6, pv (some (b18, 0))), (7, .int .i64 x21), (8, slv r34), (9, slv r36)]) ⟨rfl, rfl, rfl, rfl, rfl, rfl, rfl, trivial⟩ ?_
              intro x87 H89 J88 h
              refine GC.seq ?_
              refine GC.seq ?_
              refine GC.region ?_
              refine GL.val trivial rfl (OV.move (v := .int .i64 x87) rfl) ?_
              refine GL.val trivial rfl (OV.move (v := slv r34) rfl) ?_
              refine GL.val trivial rfl (OV.lenSl (s := r34) rfl rfl) ?_
              refine GL.val trivial rfl (OV.ibin (v := .bool (decide ((x87 : Int) < (Sl.len r34 : Int)))) rfl rfl rfl) ?_
              refine GL.nil ?_
              refine GC.cond (b := decide ((x87 : Int) < (Sl.len r34 : Int))) rfl (fun hc90 => ?_) (fun hc90 => ?_)
              · replace h := And.left h hc90
                refine GC.skip ?_
                refine GC.seq ?_
                refine GC.block ?_
                refine GC.region ?_
                refine GL.val trivial rfl (OV.move (v := slv r34) rfl) ?_
                refine GL.val trivial rfl (OV.move (v := .int .i64 x87) rfl) ?_
                obtain ⟨p91, ha92, hb93, hc94, hd95, h⟩ := h
                refine GL.val trivial rfl (OV.indexAddr (s := r34) rfl rfl rfl rfl ha92 hb93 hc94 hd95) ?_
                refine GL.store (p := (p91.1, p91.2 + (x87 : Int).toNat * 1)) (v := .int .u8 238) h trivial rfl rfl rfl rfl ?_
                intro H96 h
                refine GL.nil_to (fun _ _ h => h) ?_
                refine GC.region ?_
                refine GL.val trivial rfl (OV.move (v := .int .i64 x87) rfl) ?_
                refine GL.val trivial rfl (OV.ibin (v := .int .i64 (w .i64 (x87 + 1))) rfl rfl rfl) ?_
                refine GL.val trivial rfl (OV.assign (v := .int .i64 (w .i64 (x87 + 1))) rfl) ?_
                exact GL.jump (fun _ _ h => h) (w .i64 (x87 + 1)) h ⟨rfl, rfl, rfl, rfl, rfl, rfl, rfl, trivial⟩
              · replace h := And.right h hc90
                refine GC.exit_to (fun _ _ h => h) ?_
                refine GC.seq ?_
                refine GC.region ?_
                refine GL.val trivial rfl (OV.assign (v := .int .i64 0) rfl) ?_
                refine GL.nil ?_
                refine GC.block ?_
                refine GC.loop (α := Int) h (fun x97 => [(14, .int .i64 x97), (0, slv p_l), (5, pv r16), (6, pv (some (b18, 0))), (7, .int .i64 x21), (9, slv r36)]) ⟨rfl, rfl, rfl, rfl, rfl, rfl, trivial⟩ ?_
                intro x97 H99 J98 h
                refine GC.seq ?_
                refine GC.seq ?_
                refine GC.region ?_
                refine GL.val trivial rfl (OV.move (v := .int .i64 x97) rfl) ?_
                refine GL.val trivial rfl (OV.move (v := slv r36) rfl) ?_
                refine GL.val trivial rfl (OV.lenSl (s := r36) rfl rfl) ?_
                refine GL.val trivial rfl (OV.ibin (v := .bool (decide ((x97 : Int) < (Sl.len r36 : Int)))) rfl rfl rfl) ?_
                refine GL.nil ?_
                refine GC.cond (b := decide ((x97 : Int) < (Sl.len r36 : Int))) rfl (fun hc100 => ?_) (fun hc100 => ?_)
                · replace h := And.left h hc100
                  refine GC.skip ?_
                  refine GC.seq ?_
                  refine GC.block ?_
                  refine GC.region ?_
                  refine GL.val trivial rfl (OV.move (v := slv r36) rfl) ?_
                  refine GL.val trivial rfl (OV.move (v := .int .i64 x97) rfl) ?_
                  obtain ⟨p101, ha102, hb103, hc104, hd105, h⟩ := h
                  refine GL.val trivial rfl (OV.indexAddr (s := r36) rfl rfl rfl rfl ha102 hb103 hc104 hd105) ?_
                  refine GL.store (p := (p101.1, p101.2 + (x97 : Int).toNat * 1)) (v := sv [115, 112, 111, 105, 108, 116]) h trivial rfl rfl rfl rfl ?_
                  intro H106 h
                  refine GL.nil_to (fun _ _ h => h) ?_
                  refine GC.region ?_
                  refine GL.val trivial rfl (OV.move (v := .int .i64 x97) rfl) ?_
                  refine GL.val trivial rfl (OV.ibin (v := .int .i64 (w .i64 (x97 + 1))) rfl rfl rfl) ?_
                  refine GL.val trivial rfl (OV.assign (v := .int .i64 (w .i64 (x97 + 1))) rfl) ?_
                  exact GL.jump (fun _ _ h => h) (w .i64 (x97 + 1)) h ⟨rfl, rfl, rfl, rfl, rfl, rfl, trivial⟩
                · replace h := And.right h hc100
                  refine GC.exit_to (fun _ _ h => h) ?_
                  refine GC.region ?_
                  refine GL.val trivial rfl (OV.move (v := .int .i64 x21) rfl) ?_
                  refine GL.val trivial rfl (OV.ibin (v := .int .i64 (w .i64 (x21 + 1))) rfl rfl rfl) ?_
                  refine GL.val trivial rfl (OV.assign (v := .int .i64 (w .i64 (x21 + 1))) rfl) ?_
                  exact GL.jump (fun _ _ h => h) (w .i64 (x21 + 1)) h ⟨rfl, rfl, rfl, rfl, trivial⟩
        · replace h := And.right h hc24
          refine GC.exit_to (fun _ _ h => h) ?_
          refine GC.seq ?_
          refine GC.region ?_
          refine GL.call h trivial rfl ok_law30_awake (vs := []) rfl ?_
          rintro _ H108 ⟨r107, rfl, h⟩
          refine GL.val trivial rfl (OV.assign (v := .bool r107) rfl) ?_
          refine GL.nil ?_
          exact GC.ret (fun _ _ hf hs => post_tmp1 rfl rfl hf hs ⟨r107, rfl, h⟩)

def sh_law30_FrameNames (C : Ctx) (K : Bool → Heap → Prop) (H : Heap) : Prop :=
  c_frame_Reader_Feed C none Sl.nil (fun r1 r2 H3 =>
 c_frame_New C (fun r4 H5 =>
 nw ([.int .u8 0, .int .u8 1, .int .u8 0, .int .u8 1]) (fun b6 H7 =>
 c_frame_Reader_Feed C r4 (Sl.of (some (b6, 0)) 4 4) (fun r8 r9 H10 =>
 c_frame_Reader_Feed C r4 Sl.nil (fun r11 r12 H13 =>
 c_frame_New C (fun r14 H15 =>
 nw ([.int .u8 0, .int .u8 1, .int .u8 0, .int .u8 0]) (fun b16 H17 =>
 c_frame_Reader_Feed C r14 (Sl.of (some (b16, 0)) 4 4) (fun r18 r19 H20 =>
 mkS ([.int .u8 0]) 1 65537 65537 (fun b21 H22 =>
 b2s (Sl.of (some (b21, 0)) (65537 : Int).toNat (65537 : Int).toNat) (fun t23 =>
 c_frame_Write C t23 (fun r26 r27 H28 =>
 mkS ([.int .u8 0]) 1 65536 65536 (fun b29 H30 =>
 b2s (Sl.of (some (b29, 0)) (65536 : Int).toNat (65536 : Int).toNat) (fun t31 =>
 c_frame_Write C t31 (fun r34 r35 H36 =>
 c_frame_New C (fun r37 H38 =>
 catOk r34 ([0, 0, 0, 0, 0, 0, 0, 1] : Str) ∧
 s2b (r34 ++ ([0, 0, 0, 0, 0, 0, 0, 1] : Str)) (fun r40 H41 =>
 c_frame_Reader_Feed C r37 r40 (fun r42 r43 H44 =>
 jn (α := Bool) (fun b45 H51 =>
 jn (α := Bool) (fun b52 H58 =>
 jn (α := Bool) (fun b61 H67 =>
 jn (α := Bool) (fun b68 H74 =>
 jn (α := Bool) (fun b76 H82 =>
 jn (α := Bool) (fun b86 H97 =>
 jn (α := Bool) (fun b99 H105 =>
 jn (α := Bool) (fun b106 H112 =>
 jn (α := Bool) (fun b113 H119 =>
 jn (α := Bool) (fun b120 H126 =>
 K b120 H126)
 (fun J121 => ift (cond b113 true false)
 (c_law30_awake C (fun r124 H125 =>
 J121 r124 H125) H119)
 (J121 false H119)))
 (fun J114 => ift b106
 (c_frame_Sum C [] (fun r117 H118 =>
 J114 ((r117 : Int) == 0) H118) H112)
 (J114 false H112)))
 (fun J107 => ift b99
 (c_frame_Sum C [49, 50, 51, 52, 53, 54, 55, 56, 57] (fun r110 H111 =>
 J107 ((r110 : Int) == 3421780262) H111) H105)
 (J107 false H105)))
 (fun J100 => ift (b86 && ((r43 : Int) == 90))
 (c_frame_Reader_Shut C r37 (fun r103 H104 =>
 J100 r103 H104) H97)
 (J100 false H97)))
 (fun J87 => ift (((b76 && ((r27 : Int) == 40)) && ((r35 : Int) == 0)) && (((Sl.len r42 : Int) : Int) == 1))
 (ixa r42 0 fun p90 =>
 ldS H82 (p90.1, p90.2 + (0 : Int).toNat * 1) fun x95 =>
 J87 (((List.length x95 : Int) : Int) == 65536) H82)
 (J87 false H82)))
 (fun J77 => ift (b68 && ((r19 : Int) == 0))
 (c_frame_Reader_Held C r14 (fun r80 H81 =>
 J77 ((r80 : Int) == 4) H81) H74)
 (J77 false H74)))
 (fun J69 => ift b61
 (c_frame_Reader_Held C r4 (fun r72 H73 =>
 J69 ((r72 : Int) == 0) H73) H67)
 (J69 false H67)))
 (fun J62 => ift ((b52 && ((r9 : Int) == 40)) && ((r12 : Int) == 50))
 (c_frame_Reader_Shut C r4 (fun r65 H66 =>
 J62 r65 H66) H58)
 (J62 false H58)))
 (fun J53 => ift b45
 (c_frame_Reader_Shut C none (fun r56 H57 =>
 J53 (!r56) H57) H51)
 (J53 false H51)))
 (fun J46 => ift ((r2 : Int) == 2)
 (c_frame_Reader_Held C none (fun r49 H50 =>
 J46 ((r49 : Int) == 0) H50) H44)
 (J46 false H44))) H41) H38) H36) H30) H30) H28) H22) H22) H20) H17) H15) H13) H10) H7) H5) H3) H

theorem ad_law30_FrameNames (C : Ctx) (K : Bool → Heap → Prop) (H : Heap) (h : sh_law30_FrameNames C  K H) : c_law30_FrameNames C  K H := by
  refine Spec.enter Try.func5 rfl Try.ntmps5 rfl ?_
  refine GC.sub [] trivial ?_
  refine GC.seq ?_
  refine GC.region ?_
  refine GL.val trivial rfl (OV.assign (v := .bool false) rfl) ?_
  refine GL.nil ?_
  refine GC.seq ?_
  refine GC.region ?_
  refine GL.val trivial rfl (OV.assign (v := pv none) rfl) ?_
  refine GL.nil ?_
  refine GC.seq ?_
  refine GC.region ?_
  refine GL.val trivial rfl (OV.move (v := pv none) rfl) ?_
  refine GL.call h trivial rfl ok_frame_Reader_Feed (vs := [pv none, slv Sl.nil]) rfl ?_
  rintro _ H3 ⟨r1, r2, rfl, h⟩
  refine GL.val trivial rfl (OV.move (v := .tuple #[slv r1, .int .i64 r2]) rfl) ?_
  refine GL.val trivial rfl (OV.extract (v := slv r1) rfl rfl) ?_
  refine GL.val trivial rfl (OV.extract (v := .int .i64 r2) rfl rfl) ?_
  refine GL.val trivial rfl (OV.assign (v := slv r1) rfl) ?_
  refine GL.val trivial rfl (OV.assign (v := .int .i64 r2) rfl) ?_
  refine GL.nil ?_
  refine GC.seq ?_
  refine GC.region ?_
  refine GL.call h trivial rfl ok_frame_New (vs := []) rfl ?_
  rintro _ H5 ⟨r4, rfl, h⟩
  refine GL.val trivial rfl (OV.assign (v := pv r4) rfl) ?_
  refine GL.nil ?_
  refine GC.seq ?_
  refine GC.region ?_
  refine GL.val trivial rfl (OV.move (v := pv r4) rfl) ?_
  refine GL.buildSlice (cs := [.int .u8 0, .int .u8 1, .int .u8 0, .int .u8 1]) h trivial rfl (vs := [(0, .int .u8 0), (1, .int .u8 1), (2, .int .u8 0), (3, .int .u8 1)]) rfl ⟨5, fun _ => by kernel_rfl⟩ ?_
  intro b6 H7 h
  refine GL.call h trivial rfl ok_frame_Reader_Feed (vs := [pv r4, slv (Sl.of (some (b6, 0)) 4 4)]) rfl ?_
  rintro _ H10 ⟨r8, r9, rfl, h⟩
  refine GL.val trivial rfl (OV.move (v := .tuple #[slv r8, .int .i64 r9]) rfl) ?_
  refine GL.val trivial rfl (OV.extract (v := slv r8) rfl rfl) ?_
  refine GL.val trivial rfl (OV.extract (v := .int .i64 r9) rfl rfl) ?_
  refine GL.val trivial rfl (OV.assign (v := slv r8) rfl) ?_
  refine GL.val trivial rfl (OV.assign (v := .int .i64 r9) rfl) ?_
  refine GL.nil ?_
  refine GC.seq ?_
  refine GC.region ?_
  refine GL.val trivial rfl (OV.move (v := pv r4) rfl) ?_
  refine GL.call h trivial rfl ok_frame_Reader_Feed (vs := [pv r4, slv Sl.nil]) rfl ?_
  rintro _ H13 ⟨r11, r12, rfl, h⟩
  refine GL.val trivial rfl (OV.move (v := .tuple #[slv r11, .int .i64 r12]) rfl) ?_
  refine GL.val trivial rfl (OV.extract (v := slv r11) rfl rfl) ?_
  refine GL.val trivial rfl (OV.extract (v := .int .i64 r12) rfl rfl) ?_
  refine GL.val trivial rfl (OV.assign (v := slv r11) rfl) ?_
  refine GL.val trivial rfl (OV.assign (v := .int .i64 r12) rfl) ?_
  refine GL.nil ?_
  refine GC.seq ?_
  refine GC.region ?_
  refine GL.call h trivial rfl ok_frame_New (vs := []) rfl ?_
  rintro _ H15 ⟨r14, rfl, h⟩
  refine GL.val trivial rfl (OV.assign (v := pv r14) rfl) ?_
  refine GL.nil ?_
  refine GC.seq ?_
  refine GC.region ?_
  refine GL.val trivial rfl (OV.move (v := pv r14) rfl) ?_
  refine GL.buildSlice (cs := [.int .u8 0, .int .u8 1, .int .u8 0, .int .u8 0]) h trivial rfl (vs := [(0, .int .u8 0), (1, .int .u8 1), (2, .int .u8 0), (3, .int .u8 0)]) rfl ⟨5, fun _ => by kernel_rfl⟩ ?_
  intro b16 H17 h
  refine GL.call h trivial rfl ok_frame_Reader_Feed (vs := [pv r14, slv (Sl.of (some (b16, 0)) 4 4)]) rfl ?_
  rintro _ H20 ⟨r18, r19, rfl, h⟩
  refine GL.val trivial rfl (OV.move (v := .tuple #[slv r18, .int .i64 r19]) rfl) ?_
  refine GL.val trivial rfl (OV.extract (v := slv r18) rfl rfl) ?_
  refine GL.val trivial rfl (OV.extract (v := .int .i64 r19) rfl rfl) ?_
  refine GL.val trivial rfl (OV.assign (v := slv r18) rfl) ?_
  refine GL.val trivial rfl (OV.assign (v := .int .i64 r19) rfl) ?_
  refine GL.nil ?_
  refine GC.seq ?_
  refine GC.region ?_
  refine GL.makeSlice (zc := [.int .u8 0]) (bytes := 1) h trivial rfl rfl rfl ⟨⟨_, _, _, rfl, rfl, rfl, rfl, rfl, rfl⟩⟩ ?_
  intro b21 H22 h
  obtain ⟨t23, h24, h25, h⟩ := h
  refine GL.val trivial rfl (OV.b2s (b := (Sl.of (some (b21, 0)) (65537 : Int).toNat (65537 : Int).toNat)) (s := t23) h24 h25 rfl rfl rfl rfl) ?_
  refine GL.call h trivial rfl ok_frame_Write (vs := [sv t23]) rfl ?_
  rintro _ H28 ⟨r26, r27, rfl, h⟩
  refine GL.val trivial rfl (OV.move (v := .tuple #[sv r26, .int .i64 r27]) rfl) ?_
  refine GL.val trivial rfl (OV.extract (v := sv r26) rfl rfl) ?_
  refine GL.val trivial rfl (OV.extract (v := .int .i64 r27) rfl rfl) ?_
  refine GL.val trivial rfl (OV.assign (v := sv r26) rfl) ?_
  refine GL.val trivial rfl (OV.assign (v := .int .i64 r27) rfl) ?_
  refine GL.nil ?_
  refine GC.seq ?_
  refine GC.region ?_
  refine GL.makeSlice (zc := [.int .u8 0]) (bytes := 1) h trivial rfl rfl rfl ⟨⟨_, _, _, rfl, rfl, rfl, rfl, rfl, rfl⟩⟩ ?_
  intro b29 H30 h
  obtain ⟨t31, h32, h33, h⟩ := h
  refine GL.val trivial rfl (OV.b2s (b := (Sl.of (some (b29, 0)) (65536 : Int).toNat (65536 : Int).toNat)) (s := t31) h32 h33 rfl rfl rfl rfl) ?_
  refine GL.call h trivial rfl ok_frame_Write (vs := [sv t31]) rfl ?_
  rintro _ H36 ⟨r34, r35, rfl, h⟩
  refine GL.val trivial rfl (OV.move (v := .tuple #[sv r34, .int .i64 r35]) rfl) ?_
  refine GL.val trivial rfl (OV.extract (v := sv r34) rfl rfl) ?_
  refine GL.val trivial rfl (OV.extract (v := .int .i64 r35) rfl rfl) ?_
  refine GL.val trivial rfl (OV.assign (v := sv r34) rfl) ?_
  refine GL.val trivial rfl (OV.assign (v := .int .i64 r35) rfl) ?_
  refine GL.nil ?_
  refine GC.seq ?_
  refine GC.region ?_
  refine GL.call h trivial rfl ok_frame_New (vs := []) rfl ?_
  rintro _ H38 ⟨r37, rfl, h⟩
  refine GL.val trivial rfl (OV.assign (v := pv r37) rfl) ?_
  refine GL.nil ?_
  refine GC.seq ?_
  refine GC.region ?_
  refine GL.val trivial rfl (OV.move (v := pv r37) rfl) ?_
  refine GL.val trivial rfl (OV.move (v := sv r34) rfl) ?_
  obtain ⟨hl39, h⟩ := h
  refine GL.val trivial rfl (OV.cat (a := r34) (b := ([0, 0, 0, 0, 0, 0, 0, 1] : Str)) rfl rfl hl39) ?_
  refine GL.s2b (s := r34 ++ ([0, 0, 0, 0, 0, 0, 0, 1] : Str)) h trivial rfl rfl rfl rfl rfl ?_
  intro r40 H41 h
  refine GL.call h trivial rfl ok_frame_Reader_Feed (vs := [pv r37, slv r40]) rfl ?_
  rintro _ H44 ⟨r42, r43, rfl, h⟩
  refine GL.val trivial rfl (OV.move (v := .tuple #[slv r42, .int .i64 r43]) rfl) ?_
  refine GL.val trivial rfl (OV.extract (v := slv r42) rfl rfl) ?_
  refine GL.val trivial rfl (OV.extract (v := .int .i64 r43) rfl rfl) ?_
  refine GL.val trivial rfl (OV.assign (v := slv r42) rfl) ?_
  refine GL.val trivial rfl (OV.assign (v := .int .i64 r43) rfl) ?_
  refine GL.nil ?_
  refine GC.seq ?_
  refine GC.region ?_
  refine GL.val trivial rfl (OV.move (v := .int .i64 r2) rfl) ?_
  refine GL.val trivial rfl (OV.ibin (v := .bool ((r2 : Int) == 2)) rfl rfl rfl) ?_
  refine GL.val trivial rfl (OV.move (v := .bool ((r2 : Int) == 2)) rfl) ?_
  obtain ⟨J46, h, hR47⟩ := h
  refine GL.cut (α := Bool) 4 J46 (fun b45 => [(70, .bool b45), (1, pv none), (4, pv r4), (6, .int .i64 r9), (8, .int .i64 r12), (9, pv r14), (11, .int .i64 r19), (13, .int .i64 r27), (15, .int .i64 r35), (16, pv r37), (17, slv r42), (18, .int .i64 r43)]) ?_ ?_
  · rcases Bool.eq_false_or_eq_true ((r2 : Int) == 2) with hc48 | hc48
    · skip
      replace h := And.left h hc48
      refine GL.val ⟨_, _, rfl, rfl, hc48⟩ rfl (OV.move (v := pv none) rfl) ?_
      refine GL.call h ⟨_, _, rfl, rfl, hc48⟩ rfl ok_frame_Reader_Held (vs := [pv none]) rfl ?_
      rintro _ H50 ⟨r49, rfl, h⟩
      refine GL.val ⟨_, _, rfl, rfl, hc48⟩ rfl (OV.ibin (v := .bool ((r49 : Int) == 0)) rfl rfl rfl) ?_
      refine GL.val trivial rfl (OV.pickT (b := (r2 : Int) == 2) (v := .bool ((r49 : Int) == 0)) rfl hc48 rfl) ?_
      exact GL.jump (fun _ _ h => h) ((r49 : Int) == 0) h ⟨rfl, rfl, rfl, rfl, rfl, rfl, rfl, rfl, rfl, rfl, rfl, rfl, trivial⟩
    · skip
      replace h := And.right h hc48
      refine GL.skip ⟨_, rfl, .inl ⟨_, rfl, hc48⟩⟩ rfl ?_
      refine GL.skip ⟨_, rfl, .inl ⟨_, rfl, hc48⟩⟩ rfl ?_
      refine GL.skip ⟨_, rfl, .inl ⟨_, rfl, hc48⟩⟩ rfl ?_
      refine GL.val trivial rfl (OV.pickF (b := (r2 : Int) == 2) (v := .bool false) rfl hc48 rfl) ?_
      exact GL.jump (fun _ _ h => h) false h ⟨rfl, rfl, rfl, rfl, rfl, rfl, rfl, rfl, rfl, rfl, rfl, rfl, trivial⟩
  intro b45 H51 h
  replace h := hR47 b45 H51 h
  refine GL.val trivial rfl (OV.move (v := .bool b45) rfl) ?_
  obtain ⟨J53, h, hR54⟩ := h
  refine GL.cut (α := Bool) 4 J53 (fun b52 => [(75, .bool b52), (4, pv r4), (6, .int .i64 r9), (8, .int .i64 r12), (9, pv r14), (11, .int .i64 r19), (13, .int .i64 r27), (15, .int .i64 r35), (16, pv r37), (17, slv r42), (18, .int .i64 r43)]) ?_ ?_
  · rcases Bool.eq_false_or_eq_true b45 with hc55 | hc55
    · skip
      replace h := And.left h hc55
      refine GL.val ⟨_, _, rfl, rfl, hc55⟩ rfl (OV.move (v := pv none) rfl) ?_
      refine GL.call h ⟨_, _, rfl, rfl, hc55⟩ rfl ok_frame_Reader_Shut (vs := [pv none]) rfl ?_
      rintro _ H57 ⟨r56, rfl, h⟩
      refine GL.val ⟨_, _, rfl, rfl, hc55⟩ rfl (OV.not rfl) ?_
      refine GL.val trivial rfl (OV.pickT (b := b45) (v := .bool (!r56)) rfl hc55 rfl) ?_
      exact GL.jump (fun _ _ h => h) (!r56) h ⟨rfl, rfl, rfl, rfl, rfl, rfl, rfl, rfl, rfl, rfl, rfl, trivial⟩
    · skip
      replace h := And.right h hc55
      refine GL.skip ⟨_, rfl, .inl ⟨_, rfl, hc55⟩⟩ rfl ?_
      refine GL.skip ⟨_, rfl, .inl ⟨_, rfl, hc55⟩⟩ rfl ?_
      refine GL.skip ⟨_, rfl, .inl ⟨_, rfl, hc55⟩⟩ rfl ?_
      refine GL.val trivial rfl (OV.pickF (b := b45) (v := .bool false) rfl hc55 rfl) ?_
      exact GL.jump (fun _ _ h => h) false h ⟨rfl, rfl, rfl, rfl, rfl, rfl, rfl, rfl, rfl, rfl, rfl, trivial⟩
  intro b52 H58 h
  replace h := hR54 b52 H58 h
  refine GL.val trivial rfl (OV.move (v := .bool b52) rfl) ?_
  refine GL.cut0 3 [(79, .bool (b52 && ((r9 : Int) == 40))), (4, pv r4), (8, .int .i64 r12), (9, pv r14), (11, .int .i64 r19), (13, .int .i64 r27), (15, .int .i64 r35), (16, pv r37), (17, slv r42), (18, .int .i64 r43)] ?_ ?_
  · rcases Bool.eq_false_or_eq_true b52 with hc59 | hc59
    · skip
      refine GL.val ⟨_, _, rfl, rfl, hc59⟩ rfl (OV.move (v := .int .i64 r9) rfl) ?_
      refine GL.val ⟨_, _, rfl, rfl, hc59⟩ rfl (OV.ibin (v := .bool ((r9 : Int) == 40)) rfl rfl rfl) ?_
      refine GL.val trivial rfl (OV.pickT (b := b52) (v := .bool ((r9 : Int) == 40)) rfl hc59 rfl) ?_
      exact GL.jump0 (fun _ _ h => h) () rfl ⟨(by rw [hc59]; rfl), rfl, rfl, rfl, rfl, rfl, rfl, rfl, rfl, rfl, trivial⟩
    · skip
      refine GL.skip ⟨_, rfl, .inl ⟨_, rfl, hc59⟩⟩ rfl ?_
      refine GL.skip ⟨_, rfl, .inl ⟨_, rfl, hc59⟩⟩ rfl ?_
      refine GL.val trivial rfl (OV.pickF (b := b52) (v := .bool false) rfl hc59 rfl) ?_
      exact GL.jump0 (fun _ _ h => h) () rfl ⟨(by rw [hc59]; rfl), rfl, rfl, rfl, rfl, rfl, rfl, rfl, rfl, rfl, trivial⟩
  refine GL.val trivial rfl (OV.move (v := .bool (b52 && ((r9 : Int) == 40))) rfl) ?_
  refine GL.cut0 3 [(83, .bool ((b52 && ((r9 : Int) == 40)) && ((r12 : Int) == 50))), (4, pv r4), (9, pv r14), (11, .int .i64 r19), (13, .int .i64 r27), (15, .int .i64 r35), (16, pv r37), (17, slv r42), (18, .int .i64 r43)] ?_ ?_
  · rcases Bool.eq_false_or_eq_true (b52 && ((r9 : Int) == 40)) with hc60 | hc60
    · skip
      refine GL.val ⟨_, _, rfl, rfl, hc60⟩ rfl (OV.move (v := .int .i64 r12) rfl) ?_
      refine GL.val ⟨_, _, rfl, rfl, hc60⟩ rfl (OV.ibin (v := .bool ((r12 : Int) == 50)) rfl rfl rfl) ?_
      refine GL.val trivial rfl (OV.pickT (b := b52 && ((r9 : Int) == 40)) (v := .bool ((r12 : Int) == 50)) rfl hc60 rfl) ?_
      exact GL.jump0 (fun _ _ h => h) () rfl ⟨(by rw [hc60]; rfl), rfl, rfl, rfl, rfl, rfl, rfl, rfl, rfl, trivial⟩
    · skip
      refine GL.skip ⟨_, rfl, .inl ⟨_, rfl, hc60⟩⟩ rfl ?_
      refine GL.skip ⟨_, rfl, .inl ⟨_, rfl, hc60⟩⟩ rfl ?_
      refine GL.val trivial rfl (OV.pickF (b := b52 && ((r9 : Int) == 40)) (v := .bool false) rfl hc60 rfl) ?_
      exact GL.jump0 (fun _ _ h => h) () rfl ⟨(by rw [hc60]; rfl), rfl, rfl, rfl, rfl, rfl, rfl, rfl, rfl, trivial⟩
  refine GL.val trivial rfl (OV.move (v := .bool ((b52 && ((r9 : Int) == 40)) && ((r12 : Int) == 50))) rfl) ?_
  obtain ⟨J62, h, hR63⟩ := h
  refine GL.cut (α := Bool) 3 J62 (fun b61 => [(87, .bool b61), (4, pv r4), (9, pv r14), (11, .int .i64 r19), (13, .int .i64 r27), (15, .int .i64 r35), (16, pv r37), (17, slv r42), (18, .int .i64 r43)]) ?_ ?_
  · rcases Bool.eq_false_or_eq_true ((b52 && ((r9 : Int) == 40)) && ((r12 : Int) == 50)) with hc64 | hc64
    · skip
      replace h := And.left h hc64
      refine GL.val ⟨_, _, rfl, rfl, hc64⟩ rfl (OV.move (v := pv r4) rfl) ?_
      refine GL.call h ⟨_, _, rfl, rfl, hc64⟩ rfl ok_frame_Reader_Shut (vs := [pv r4]) rfl ?_
      rintro _ H66 ⟨r65, rfl, h⟩
      refine GL.val trivial rfl (OV.pickT (b := (b52 && ((r9 : Int) == 40)) && ((r12 : Int) == 50)) (v := .bool r65) rfl hc64 rfl) ?_
      exact GL.jump (fun _ _ h => h) r65 h ⟨rfl, rfl, rfl, rfl, rfl, rfl, rfl, rfl, rfl, trivial⟩
    · skip
      replace h := And.right h hc64
      refine GL.skip ⟨_, rfl, .inl ⟨_, rfl, hc64⟩⟩ rfl ?_
      refine GL.skip ⟨_, rfl, .inl ⟨_, rfl, hc64⟩⟩ rfl ?_
      refine GL.val trivial rfl (OV.pickF (b := (b52 && ((r9 : Int) == 40)) && ((r12 : Int) == 50)) (v := .bool false) rfl hc64 rfl) ?_
      exact GL.jump (fun _ _ h => h) false h ⟨rfl, rfl, rfl, rfl, rfl, rfl, rfl, rfl, rfl, trivial⟩
  intro b61 H67 h
  replace h := hR63 b61 H67 h
  refine GL.val trivial rfl (OV.move (v := .bool b61) rfl) ?_
  obtain ⟨J69, h, hR70⟩ := h
  refine GL.cut (α := Bool) 4 J69 (fun b68 => [(92, .bool b68), (9, pv r14), (11, .int .i64 r19), (13, .int .i64 r27), (15, .int .i64 r35), (16, pv r37), (17, slv r42), (18, .int .i64 r43)]) ?_ ?_
  · rcases Bool.eq_false_or_eq_true b61 with hc71 | hc71
    · skip
      replace h := And.left h hc71
      refine GL.val ⟨_, _, rfl, rfl, hc71⟩ rfl (OV.move (v := pv r4) rfl) ?_
      refine GL.call h ⟨_, _, rfl, rfl, hc71⟩ rfl ok_frame_Reader_Held (vs := [pv r4]) rfl ?_
      rintro _ H73 ⟨r72, rfl, h⟩
      refine GL.val ⟨_, _, rfl, rfl, hc71⟩ rfl (OV.ibin (v := .bool ((r72 : Int) == 0)) rfl rfl rfl) ?_
      refine GL.val trivial rfl (OV.pickT (b := b61) (v := .bool ((r72 : Int) == 0)) rfl hc71 rfl) ?_
      exact GL.jump (fun _ _ h => h) ((r72 : Int) == 0) h ⟨rfl, rfl, rfl, rfl, rfl, rfl, rfl, rfl, trivial⟩
    · skip
      replace h := And.right h hc71
      refine GL.skip ⟨_, rfl, .inl ⟨_, rfl, hc71⟩⟩ rfl ?_
      refine GL.skip ⟨_, rfl, .inl ⟨_, rfl, hc71⟩⟩ rfl ?_
      refine GL.skip ⟨_, rfl, .inl ⟨_, rfl, hc71⟩⟩ rfl ?_
      refine GL.val trivial rfl (OV.pickF (b := b61) (v := .bool false) rfl hc71 rfl) ?_
      exact GL.jump (fun _ _ h => h) false h ⟨rfl, rfl, rfl, rfl, rfl, rfl, rfl, rfl, trivial⟩
  intro b68 H74 h
  replace h := hR70 b68 H74 h
  refine GL.val trivial rfl (OV.move (v := .bool b68) rfl) ?_
  refine GL.cut0 3 [(96, .bool (b68 && ((r19 : Int) == 0))), (9, pv r14), (13, .int .i64 r27), (15, .int .i64 r35), (16, pv r37), (17, slv r42), (18, .int .i64 r43)] ?_ ?_
  · rcases Bool.eq_false_or_eq_true b68 with hc75 | hc75
    · skip
      refine GL.val ⟨_, _, rfl, rfl, hc75⟩ rfl (OV.move (v := .int .i64 r19) rfl) ?_
      refine GL.val ⟨_, _, rfl, rfl, hc75⟩ rfl (OV.ibin (v := .bool ((r19 : Int) == 0)) rfl rfl rfl) ?_
      refine GL.val trivial rfl (OV.pickT (b := b68) (v := .bool ((r19 : Int) == 0)) rfl hc75 rfl) ?_
      exact GL.jump0 (fun _ _ h => h) () rfl ⟨(by rw [hc75]; rfl), rfl, rfl, rfl, rfl, rfl, rfl, trivial⟩
    · skip
      refine GL.skip ⟨_, rfl, .inl ⟨_, rfl, hc75⟩⟩ rfl ?_
      refine GL.skip ⟨_, rfl, .inl ⟨_, rfl, hc75⟩⟩ rfl ?_
      refine GL.val trivial rfl (OV.pickF (b := b68) (v := .bool false) rfl hc75 rfl) ?_
      exact GL.jump0 (fun _ _ h => h) () rfl ⟨(by rw [hc75]; rfl), rfl, rfl, rfl, rfl, rfl, rfl, trivial⟩
  refine GL.val trivial rfl (OV.move (v := .bool (b68 && ((r19 : Int) == 0))) rfl) ?_
  obtain ⟨J77, h, hR78⟩ := h
  refine GL.cut (α := Bool) 4 J77 (fun b76 => [(101, .bool b76), (13, .int .i64 r27), (15, .int .i64 r35), (16, pv r37), (17, slv r42), (18, .int .i64 r43)]) ?_ ?_
  · rcases Bool.eq_false_or_eq_true (b68 && ((r19 : Int) == 0)) with hc79 | hc79
    · skip
      replace h := And.left h hc79
      refine GL.val ⟨_, _, rfl, rfl, hc79⟩ rfl (OV.move (v := pv r14) rfl) ?_
      refine GL.call h ⟨_, _, rfl, rfl, hc79⟩ rfl ok_frame_Reader_Held (vs := [pv r14]) rfl ?_
      rintro _ H81 ⟨r80, rfl, h⟩
      refine GL.val ⟨_, _, rfl, rfl, hc79⟩ rfl (OV.ibin (v := .bool ((r80 : Int) == 4)) rfl rfl rfl) ?_
      refine GL.val trivial rfl (OV.pickT (b := b68 && ((r19 : Int) == 0)) (v := .bool ((r80 : Int) == 4)) rfl hc79 rfl) ?_
      exact GL.jump (fun _ _ h => h) ((r80 : Int) == 4) h ⟨rfl, rfl, rfl, rfl, rfl, rfl, trivial⟩
    · skip
      replace h := And.right h hc79
      refine GL.skip ⟨_, rfl, .inl ⟨_, rfl, hc79⟩⟩ rfl ?_
      refine GL.skip ⟨_, rfl, .inl ⟨_, rfl, hc79⟩⟩ rfl ?_
      refine GL.skip ⟨_, rfl, .inl ⟨_, rfl, hc79⟩⟩ rfl ?_
      refine GL.val trivial rfl (OV.pickF (b := b68 && ((r19 : Int) == 0)) (v := .bool false) rfl hc79 rfl) ?_
      exact GL.jump (fun _ _ h => h) false h ⟨rfl, rfl, rfl, rfl, rfl, rfl, trivial⟩
  intro b76 H82 h
  replace h := hR78 b76 H82 h
  refine GL.val trivial rfl (OV.move (v := .bool b76) rfl) ?_
  refine GL.cut0 3 [(105, .bool (b76 && ((r27 : Int) == 40))), (15, .int .i64 r35), (16, pv r37), (17, slv r42), (18, .int .i64 r43)] ?_ ?_
  · rcases Bool.eq_false_or_eq_true b76 with hc83 | hc83
    · skip
      refine GL.val ⟨_, _, rfl, rfl, hc83⟩ rfl (OV.move (v := .int .i64 r27) rfl) ?_
      refine GL.val ⟨_, _, rfl, rfl, hc83⟩ rfl (OV.ibin (v := .bool ((r27 : Int) == 40)) rfl rfl rfl) ?_
      refine GL.val trivial rfl (OV.pickT (b := b76) (v := .bool ((r27 : Int) == 40)) rfl hc83 rfl) ?_
      exact GL.jump0 (fun _ _ h => h) () rfl ⟨(by rw [hc83]; rfl), rfl, rfl, rfl, rfl, trivial⟩
    · skip
      refine GL.skip ⟨_, rfl, .inl ⟨_, rfl, hc83⟩⟩ rfl ?_
      refine GL.skip ⟨_, rfl, .inl ⟨_, rfl, hc83⟩⟩ rfl ?_
      refine GL.val trivial rfl (OV.pickF (b := b76) (v := .bool false) rfl hc83 rfl) ?_
      exact GL.jump0 (fun _ _ h => h) () rfl ⟨(by rw [hc83]; rfl), rfl, rfl, rfl, rfl, trivial⟩
  refine GL.val trivial rfl (OV.move (v := .bool (b76 && ((r27 : Int) == 40))) rfl) ?_
  refine GL.cut0 3 [(109, .bool ((b76 && ((r27 : Int) == 40)) && ((r35 : Int) == 0))), (16, pv r37), (17, slv r42), (18, .int .i64 r43)] ?_ ?_
  · rcases Bool.eq_false_or_eq_true (b76 && ((r27 : Int) == 40)) with hc84 | hc84
    · skip
      refine GL.val ⟨_, _, rfl, rfl, hc84⟩ rfl (OV.move (v := .int .i64 r35) rfl) ?_
      refine GL.val ⟨_, _, rfl, rfl, hc84⟩ rfl (OV.ibin (v := .bool ((r35 : Int) == 0)) rfl rfl rfl) ?_
      refine GL.val trivial rfl (OV.pickT (b := b76 && ((r27 : Int) == 40)) (v := .bool ((r35 : Int) == 0)) rfl hc84 rfl) ?_
      exact GL.jump0 (fun _ _ h => h) () rfl ⟨(by rw [hc84]; rfl), rfl, rfl, rfl, trivial⟩
    · skip
      refine GL.skip ⟨_, rfl, .inl ⟨_, rfl, hc84⟩⟩ rfl ?_
      refine GL.skip ⟨_, rfl, .inl ⟨_, rfl, hc84⟩⟩ rfl ?_
      refine GL.val trivial rfl (OV.pickF (b := b76 && ((r27 : Int) == 40)) (v := .bool false) rfl hc84 rfl) ?_
      exact GL.jump0 (fun _ _ h => h) () rfl ⟨(by rw [hc84]; rfl), rfl, rfl, rfl, trivial⟩
  refine GL.val trivial rfl (OV.move (v := .bool ((b76 && ((r27 : Int) == 40)) && ((r35 : Int) == 0))) rfl) ?_
  refine GL.cut0 4 [(114, .bool (((b76 && ((r27 : Int) == 40)) && ((r35 : Int) == 0)) && (((Sl.len r42 : Int) : Int) == 1))), (16, pv r37), (17, slv r42), (18, .int .i64 r43)] ?_ ?_
  · rcases Bool.eq_false_or_eq_true ((b76 && ((r27 : Int) == 40)) && ((r35 : Int) == 0)) with hc85 | hc85
    · skip
      refine GL.val ⟨_, _, rfl, rfl, hc85⟩ rfl (OV.move (v := slv r42) rfl) ?_
      refine GL.val ⟨_, _, rfl, rfl, hc85⟩ rfl (OV.lenSl (s := r42) rfl rfl) ?_
      refine GL.val ⟨_, _, rfl, rfl, hc85⟩ rfl (OV.ibin (v := .bool (((Sl.len r42 : Int) : Int) == 1)) rfl rfl rfl) ?_
      refine GL.val trivial rfl (OV.pickT (b := (b76 && ((r27 : Int) == 40)) && ((r35 : Int) == 0)) (v := .bool (((Sl.len r42 : Int) : Int) == 1)) rfl hc85 rfl) ?_
      exact GL.jump0 (fun _ _ h => h) () rfl ⟨(by rw [hc85]; rfl), rfl, rfl, rfl, trivial⟩
    · skip
      refine GL.skip ⟨_, rfl, .inl ⟨_, rfl, hc85⟩⟩ rfl ?_
      refine GL.skip ⟨_, rfl, .inl ⟨_, rfl, hc85⟩⟩ rfl ?_
      refine GL.skip ⟨_, rfl, .inl ⟨_, rfl, hc85⟩⟩ rfl ?_
      refine GL.val trivial rfl (OV.pickF (b := (b76 && ((r27 : Int) == 40)) && ((r35 : Int) == 0)) (v := .bool false) rfl hc85 rfl) ?_
      exact GL.jump0 (fun _ _ h => h) () rfl ⟨(by rw [hc85]; rfl), rfl, rfl, rfl, trivial⟩
  refine GL.val trivial rfl (OV.move (v := .bool (((b76 && ((r27 : Int) == 40)) && ((r35 : Int) == 0)) && (((Sl.len r42 : Int) : Int) == 1))) rfl) ?_
  obtain ⟨J87, h, hR88⟩ := h
  refine GL.cut (α := Bool) 6 J87 (fun b86 => [(121, .bool b86), (16, pv r37), (18, .int .i64 r43)]) ?_ ?_
  · rcases Bool.eq_false_or_eq_true (((b76 && ((r27 : Int) == 40)) && ((r35 : Int) == 0)) && (((Sl.len r42 : Int) : Int) == 1)) with hc89 | hc89
    · skip
      replace h := And.left h hc89
      refine GL.val ⟨_, _, rfl, rfl, hc89⟩ rfl (OV.move (v := slv r42) rfl) ?_
      obtain ⟨p90, ha91, hb92, hc93, hd94, h⟩ := h
      refine GL.val ⟨_, _, rfl, rfl, hc89⟩ rfl (OV.indexAddr (s := r42) rfl rfl rfl rfl ha91 hb92 hc93 hd94) ?_
      obtain ⟨x95, hr96, h⟩ := h
      refine GL.val ⟨_, _, rfl, rfl, hc89⟩ rfl (OV.load (p := (p90.1, p90.2 + (0 : Int).toNat * 1)) rfl rfl hr96) ?_
      refine GL.val ⟨_, _, rfl, rfl, hc89⟩ rfl (OV.lenStr (s := x95) rfl rfl) ?_
      refine GL.val ⟨_, _, rfl, rfl, hc89⟩ rfl (OV.ibin (v := .bool (((List.length x95 : Int) : Int) == 65536)) rfl rfl rfl) ?_
      refine GL.val trivial rfl (OV.pickT (b := ((b76 && ((r27 : Int) == 40)) && ((r35 : Int) == 0)) && (((Sl.len r42 : Int) : Int) == 1)) (v := .bool (((List.length x95 : Int) : Int) == 65536)) rfl hc89 rfl) ?_
      exact GL.jump (fun _ _ h => h) (((List.length x95 : Int) : Int) == 65536) h ⟨rfl, rfl, rfl, trivial⟩
    · skip
      replace h := And.right h hc89
      refine GL.skip ⟨_, rfl, .inl ⟨_, rfl, hc89⟩⟩ rfl ?_
      refine GL.skip ⟨_, rfl, .inl ⟨_, rfl, hc89⟩⟩ rfl ?_
      refine GL.skip ⟨_, rfl, .inl ⟨_, rfl, hc89⟩⟩ rfl ?_
      refine GL.skip ⟨_, rfl, .inl ⟨_, rfl, hc89⟩⟩ rfl ?_
      refine GL.skip ⟨_, rfl, .inl ⟨_, rfl, hc89⟩⟩ rfl ?_
      refine GL.val trivial rfl (OV.pickF (b := ((b76 && ((r27 : Int) == 40)) && ((r35 : Int) == 0)) && (((Sl.len r42 : Int) : Int) == 1)) (v := .bool false) rfl hc89 rfl) ?_
      exact GL.jump (fun _ _ h => h) false h ⟨rfl, rfl, rfl, trivial⟩
  intro b86 H97 h
  replace h := hR88 b86 H97 h
  refine GL.val trivial rfl (OV.move (v := .bool b86) rfl) ?_
  refine GL.cut0 3 [(125, .bool (b86 && ((r43 : Int) == 90))), (16, pv r37)] ?_ ?_
  · rcases Bool.eq_false_or_eq_true b86 with hc98 | hc98
    · skip
      refine GL.val ⟨_, _, rfl, rfl, hc98⟩ rfl (OV.move (v := .int .i64 r43) rfl) ?_
      refine GL.val ⟨_, _, rfl, rfl, hc98⟩ rfl (OV.ibin (v := .bool ((r43 : Int) == 90)) rfl rfl rfl) ?_
      refine GL.val trivial rfl (OV.pickT (b := b86) (v := .bool ((r43 : Int) == 90)) rfl hc98 rfl) ?_
      exact GL.jump0 (fun _ _ h => h) () rfl ⟨(by rw [hc98]; rfl), rfl, trivial⟩
    · skip
      refine GL.skip ⟨_, rfl, .inl ⟨_, rfl, hc98⟩⟩ rfl ?_
      refine GL.skip ⟨_, rfl, .inl ⟨_, rfl, hc98⟩⟩ rfl ?_
      refine GL.val trivial rfl (OV.pickF (b := b86) (v := .bool false) rfl hc98 rfl) ?_
      exact GL.jump0 (fun _ _ h => h) () rfl ⟨(by rw [hc98]; rfl), rfl, trivial⟩
  refine GL.val trivial rfl (OV.move (v := .bool (b86 && ((r43 : Int) == 90))) rfl) ?_
  obtain ⟨J100, h, hR101⟩ := h
  refine GL.cut (α := Bool) 3 J100 (fun b99 => [(129, .bool b99)]) ?_ ?_
  · rcases Bool.eq_false_or_eq_true (b86 && ((r43 : Int) == 90)) with hc102 | hc102
    · skip
      replace h := And.left h hc102
      refine GL.val ⟨_, _, rfl, rfl, hc102⟩ rfl (OV.move (v := pv r37) rfl) ?_
      refine GL.call h ⟨_, _, rfl, rfl, hc102⟩ rfl ok_frame_Reader_Shut (vs := [pv r37]) rfl ?_
      rintro _ H104 ⟨r103, rfl, h⟩
      refine GL.val trivial rfl (OV.pickT (b := b86 && ((r43 : Int) == 90)) (v := .bool r103) rfl hc102 rfl) ?_
      exact GL.jump (fun _ _ h => h) r103 h ⟨rfl, trivial⟩
    · skip
      replace h := And.right h hc102
      refine GL.skip ⟨_, rfl, .inl ⟨_, rfl, hc102⟩⟩ rfl ?_
      refine GL.skip ⟨_, rfl, .inl ⟨_, rfl, hc102⟩⟩ rfl ?_
      refine GL.val trivial rfl (OV.pickF (b := b86 && ((r43 : Int) == 90)) (v := .bool false) rfl hc102 rfl) ?_
      exact GL.jump (fun _ _ h => h) false h ⟨rfl, trivial⟩
  intro b99 H105 h
  replace h := hR101 b99 H105 h
  refine GL.val trivial rfl (OV.move (v := .bool b99) rfl) ?_
  obtain ⟨J107, h, hR108⟩ := h
  refine GL.cut (α := Bool) 3 J107 (fun b106 => [(133, .bool b106)]) ?_ ?_
  · rcases Bool.eq_false_or_eq_true b99 with hc109 | hc109
    · skip
      replace h := And.left h hc109
      refine GL.call h ⟨_, _, rfl, rfl, hc109⟩ rfl ok_frame_Sum (vs := [sv [49, 50, 51, 52, 53, 54, 55, 56, 57]]) rfl ?_
      rintro _ H111 ⟨r110, rfl, h⟩
      refine GL.val ⟨_, _, rfl, rfl, hc109⟩ rfl (OV.ibin (v := .bool ((r110 : Int) == 3421780262)) rfl rfl rfl) ?_
      refine GL.val trivial rfl (OV.pickT (b := b99) (v := .bool ((r110 : Int) == 3421780262)) rfl hc109 rfl) ?_
      exact GL.jump (fun _ _ h => h) ((r110 : Int) == 3421780262) h ⟨rfl, trivial⟩
    · skip
      replace h := And.right h hc109
      refine GL.skip ⟨_, rfl, .inl ⟨_, rfl, hc109⟩⟩ rfl ?_
      refine GL.skip ⟨_, rfl, .inl ⟨_, rfl, hc109⟩⟩ rfl ?_
      refine GL.val trivial rfl (OV.pickF (b := b99) (v := .bool false) rfl hc109 rfl) ?_
      exact GL.jump (fun _ _ h => h) false h ⟨rfl, trivial⟩
  intro b106 H112 h
  replace h := hR108 b106 H112 h
  refine GL.val trivial rfl (OV.move (v := .bool b106) rfl) ?_
  obtain ⟨J114, h, hR115⟩ := h
  refine GL.cut (α := Bool) 3 J114 (fun b113 => [(137, .bool b113)]) ?_ ?_
  · rcases Bool.eq_false_or_eq_true b106 with hc116 | hc116
    · skip
      replace h := And.left h hc116
      refine GL.call h ⟨_, _, rfl, rfl, hc116⟩ rfl ok_frame_Sum (vs := [sv []]) rfl ?_
      rintro _ H118 ⟨r117, rfl, h⟩
      refine GL.val ⟨_, _, rfl, rfl, hc116⟩ rfl (OV.ibin (v := .bool ((r117 : Int) == 0)) rfl rfl rfl) ?_
      refine GL.val trivial rfl (OV.pickT (b := b106) (v := .bool ((r117 : Int) == 0)) rfl hc116 rfl) ?_
      exact GL.jump (fun _ _ h => h) ((r117 : Int) == 0) h ⟨rfl, trivial⟩
    · skip
      replace h := And.right h hc116
      refine GL.skip ⟨_, rfl, .inl ⟨_, rfl, hc116⟩⟩ rfl ?_
      refine GL.skip ⟨_, rfl, .inl ⟨_, rfl, hc116⟩⟩ rfl ?_
      refine GL.val trivial rfl (OV.pickF (b := b106) (v := .bool false) rfl hc116 rfl) ?_
      exact GL.jump (fun _ _ h => h) false h ⟨rfl, trivial⟩
  intro b113 H119 h
  replace h := hR115 b113 H119 h
  refine GL.val trivial rfl (OV.move (v := .bool b113) rfl) ?_
  refine GL.val trivial rfl (OV.pickB rfl rfl rfl) ?_
  refine GL.val trivial rfl (OV.move (v := .bool (cond b113 true false)) rfl) ?_
  obtain ⟨J121, h, hR122⟩ := h
  refine GL.cut (α := Bool) 2 J121 (fun b120 => [(142, .bool b120)]) ?_ ?_
  · rcases Bool.eq_false_or_eq_true (cond b113 true false) with hc123 | hc123
    · skip
      replace h := And.left h hc123
      refine GL.call h ⟨_, _, rfl, rfl, hc123⟩ rfl ok_law30_awake (vs := []) rfl ?_
      rintro _ H125 ⟨r124, rfl, h⟩
      refine GL.val trivial rfl (OV.pickT (b := cond b113 true false) (v := .bool r124) rfl hc123 rfl) ?_
      exact GL.jump (fun _ _ h => h) r124 h ⟨rfl, trivial⟩
    · skip
      replace h := And.right h hc123
      refine GL.skip ⟨_, rfl, .inl ⟨_, rfl, hc123⟩⟩ rfl ?_
      refine GL.val trivial rfl (OV.pickF (b := cond b113 true false) (v := .bool false) rfl hc123 rfl) ?_
      exact GL.jump (fun _ _ h => h) false h ⟨rfl, trivial⟩
  intro b120 H126 h
  replace h := hR122 b120 H126 h
  refine GL.val trivial rfl (OV.assign (v := .bool b120) rfl) ?_
  refine GL.nil ?_
  exact GC.ret (fun _ _ hf hs => post_tmp1 rfl rfl hf hs ⟨b120, rfl, h⟩)

def sh_law30_FrameChunks (C : Ctx) (p_b : Sl) (p_cuts : Sl) (K : Bool → Heap → Prop) (H : Heap) : Prop :=
  jn (α := Bool) (fun b1 H7 =>
 ift b1
 (c_law30_awake C (fun r9 H10 =>
 K r9 H10) H7)
 (lp (α := Sl × Int × Int) (Sl.nil, 0, 0) H7 (fun x11 J12 H13 =>
 ift ((decide ((x11.2.2 : Int) < (Sl.len p_cuts : Int))) && (decide ((x11.2.1 : Int) < (Sl.len p_b : Int))))
 (ixa p_cuts x11.2.2 fun p16 =>
 ldI H13 .u8 (p16.1, p16.2 + (x11.2.2 : Int).toNat * 1) fun x21 =>
 slL p_b x11.2.1 (if (Sl.len p_b : Int) < (w .i64 (x11.2.1 + (w .i64 x21))) then (Sl.len p_b : Int) else (w .i64 (x11.2.1 + (w .i64 x21))) : Int) (Sl.cap p_b : Int) 1 fun t23 =>
 apd ([slv Sl.nil]) 24 x11.1 ([slv t23]) 1 (fun r29 H30 =>
 J12 (r29, (if (Sl.len p_b : Int) < (w .i64 (x11.2.1 + (w .i64 x21))) then (Sl.len p_b : Int) else (w .i64 (x11.2.1 + (w .i64 x21))) : Int), (w .i64 (x11.2.2 + 1))) H30) H13)
 (slL p_b x11.2.1 (Sl.len p_b : Int) (Sl.cap p_b : Int) 1 fun t31 =>
 apd ([slv Sl.nil]) 24 x11.1 ([slv t31]) 1 (fun r37 H38 =>
 nw ([slv p_b]) (fun b39 H40 =>
 c_law30_fed C (Sl.of (some (b39, 0)) 1 1) (fun r41 r42 r43 H44 =>
 c_law30_fed C r37 (fun r45 r46 r47 H48 =>
 c_ref30_Same C r41 r45 (fun r49 H50 =>
 K ((r49 && ((r42 : Int) == r46)) && ((r43 : Int) == r47)) H50) H48) H44) H40) H38) H13))))
 (fun J2 => ift (decide (((Sl.len p_b : Int) : Int) > 1000))
 (J2 true H)
 (c_law30_awake C (fun r5 H6 =>
 J2 (!r5) H6) H))

theorem ad_law30_FrameChunks (C : Ctx) (p_b : Sl) (p_cuts : Sl) (K : Bool → Heap → Prop) (H : Heap) (h : sh_law30_FrameChunks C p_b p_cuts K H) : c_law30_FrameChunks C p_b p_cuts K H := by
  refine Spec.enter Try.func6 rfl Try.ntmps6 rfl ?_
  refine GC.sub [(0, slv p_b), (1, slv p_cuts)] ⟨rfl, rfl, trivial⟩ ?_
  refine GC.seq ?_
  refine GC.region ?_
  refine GL.val trivial rfl (OV.assign (v := .bool false) rfl) ?_
  refine GL.nil ?_
  refine GC.seq ?_
  refine GC.seq ?_
  refine GC.region ?_
  refine GL.val trivial rfl (OV.move (v := slv p_b) rfl) ?_
  refine GL.val trivial rfl (OV.lenSl (s := p_b) rfl rfl) ?_
  refine GL.val trivial rfl (OV.ibin (v := .bool (decide (((Sl.len p_b : Int) : Int) > 1000))) rfl rfl rfl) ?_
  refine GL.val trivial rfl (OV.move (v := .bool (decide (((Sl.len p_b : Int) : Int) > 1000))) rfl) ?_
  obtain ⟨J2, h, hR3⟩ := h
  refine GL.cut (α := Bool) 3 J2 (fun b1 => [(21, .bool b1), (0, slv p_b), (1, slv p_cuts)]) ?_ ?_
  · rcases Bool.eq_false_or_eq_true (decide (((Sl.len p_b : Int) : Int) > 1000)) with hc4 | hc4
    · skip
      replace h := And.left h hc4
      refine GL.skip ⟨_, rfl, .inl ⟨_, rfl, hc4⟩⟩ rfl ?_
      refine GL.skip ⟨_, rfl, .inl ⟨_, rfl, hc4⟩⟩ rfl ?_
      refine GL.val trivial rfl (OV.pickT (b := decide (((Sl.len p_b : Int) : Int) > 1000)) (v := .bool true) rfl hc4 rfl) ?_
      exact GL.jump (fun _ _ h => h) true h ⟨rfl, rfl, rfl, trivial⟩
    · skip
      replace h := And.right h hc4
      refine GL.call h ⟨_, _, rfl, rfl, hc4⟩ rfl ok_law30_awake (vs := []) rfl ?_
      rintro _ H6 ⟨r5, rfl, h⟩
      refine GL.val ⟨_, _, rfl, rfl, hc4⟩ rfl (OV.not rfl) ?_
      refine GL.val trivial rfl (OV.pickF (b := decide (((Sl.len p_b : Int) : Int) > 1000)) (v := .bool (!r5)) rfl hc4 rfl) ?_
      exact GL.jump (fun _ _ h => h) (!r5) h ⟨rfl, rfl, rfl, trivial⟩
  intro b1 H7 h
  replace h := hR3 b1 H7 h
  refine GL.nil ?_
  refine GC.cond (b := b1) rfl (fun hc8 => ?_) (fun hc8 => ?_)
  · replace h := And.left h hc8
    refine GC.seq ?_
    refine GC.region ?_
    refine GL.call h trivial rfl ok_law30_awake (vs := []) rfl ?_
    rintro _ H10 ⟨r9, rfl, h⟩
    refine GL.val trivial rfl (OV.assign (v := .bool r9) rfl) ?_
    refine GL.nil ?_
    exact GC.ret (fun _ _ hf hs => post_tmp1 rfl rfl hf hs ⟨r9, rfl, h⟩)
  · replace h := And.right h hc8
    refine GC.skip ?_
    refine GC.seq ?_
    refine GC.region ?_
    refine GL.val trivial rfl (OV.assign (v := slv Sl.nil) rfl) ?_
    refine GL.nil ?_
    refine GC.seq ?_
    refine GC.region ?_
    refine GL.val trivial rfl (OV.assign (v := .int .i64 0) rfl) ?_
    refine GL.nil ?_
    refine GC.seq ?_
    refine GC.seq ?_
    refine GC.region ?_
    refine GL.val trivial rfl (OV.assign (v := .int .i64 0) rfl) ?_
    refine GL.nil ?_
    refine GC.block ?_
    refine GC.loop (α := Sl × Int × Int) h (fun x11 => [(5, slv x11.1), (6, .int .i64 x11.2.1), (7, .int .i64 x11.2.2), (0, slv p_b), (1, slv p_cuts)]) ⟨rfl, rfl, rfl, rfl, rfl, trivial⟩ ?_
    intro x11 H13 J12 h
    refine GC.seq ?_
    refine GC.seq ?_
    refine GC.region ?_
    refine GL.val trivial rfl (OV.move (v := .int .i64 x11.2.2) rfl) ?_
    refine GL.val trivial rfl (OV.move (v := slv p_cuts) rfl) ?_
    refine GL.val trivial rfl (OV.lenSl (s := p_cuts) rfl rfl) ?_
    refine GL.val trivial rfl (OV.ibin (v := .bool (decide ((x11.2.2 : Int) < (Sl.len p_cuts : Int)))) rfl rfl rfl) ?_
    refine GL.val trivial rfl (OV.move (v := .bool (decide ((x11.2.2 : Int) < (Sl.len p_cuts : Int)))) rfl) ?_
    refine GL.cut0 5 [(32, .bool ((decide ((x11.2.2 : Int) < (Sl.len p_cuts : Int))) && (decide ((x11.2.1 : Int) < (Sl.len p_b : Int))))), (0, slv p_b), (1, slv p_cuts), (5, slv x11.1), (6, .int .i64 x11.2.1), (7, .int .i64 x11.2.2)] ?_ ?_
    · rcases Bool.eq_false_or_eq_true (decide ((x11.2.2 : Int) < (Sl.len p_cuts : Int))) with hc14 | hc14
      · skip
        refine GL.val ⟨_, _, rfl, rfl, hc14⟩ rfl (OV.move (v := .int .i64 x11.2.1) rfl) ?_
        refine GL.val ⟨_, _, rfl, rfl, hc14⟩ rfl (OV.move (v := slv p_b) rfl) ?_
        refine GL.val ⟨_, _, rfl, rfl, hc14⟩ rfl (OV.lenSl (s := p_b) rfl rfl) ?_
        refine GL.val ⟨_, _, rfl, rfl, hc14⟩ rfl (OV.ibin (v := .bool (decide ((x11.2.1 : Int) < (Sl.len p_b : Int)))) rfl rfl rfl) ?_
        refine GL.val trivial rfl (OV.pickT (b := decide ((x11.2.2 : Int) < (Sl.len p_cuts : Int))) (v := .bool (decide ((x11.2.1 : Int) < (Sl.len p_b : Int)))) rfl hc14 rfl) ?_
        exact GL.jump0 (fun _ _ h => h) () rfl ⟨(by rw [hc14]; rfl), rfl, rfl, rfl, rfl, rfl, trivial⟩
      · skip
        refine GL.skip ⟨_, rfl, .inl ⟨_, rfl, hc14⟩⟩ rfl ?_
        refine GL.skip ⟨_, rfl, .inl ⟨_, rfl, hc14⟩⟩ rfl ?_
        refine GL.skip ⟨_, rfl, .inl ⟨_, rfl, hc14⟩⟩ rfl ?_
        refine GL.skip ⟨_, rfl, .inl ⟨_, rfl, hc14⟩⟩ rfl ?_
        refine GL.val trivial rfl (OV.pickF (b := decide ((x11.2.2 : Int) < (Sl.len p_cuts : Int))) (v := .bool false) rfl hc14 rfl) ?_
        exact GL.jump0 (fun _ _ h => h) () rfl ⟨(by rw [hc14]; rfl), rfl, rfl, rfl, rfl, rfl, trivial⟩
    refine GL.nil ?_
    refine GC.cond (b := (decide ((x11.2.2 : Int) < (Sl.len p_cuts : Int))) && (decide ((x11.2.1 : Int) < (Sl.len p_b : Int)))) rfl (fun hc15 => ?_) (fun hc15 => ?_)
    · replace h := And.left h hc15
      refine GC.skip ?_
      refine GC.seq ?_
      refine GC.block ?_
      refine GC.seq ?_
      refine GC.region ?_
      refine GL.val trivial rfl (OV.move (v := .int .i64 x11.2.1) rfl) ?_
      refine GL.val trivial rfl (OV.move (v := slv p_cuts) rfl) ?_
      refine GL.val trivial rfl (OV.move (v := .int .i64 x11.2.2) rfl) ?_
      obtain ⟨p16, ha17, hb18, hc19, hd20, h⟩ := h
      refine GL.val trivial rfl (OV.indexAddr (s := p_cuts) rfl rfl rfl rfl ha17 hb18 hc19 hd20) ?_
      obtain ⟨x21, hr22, h⟩ := h
      refine GL.val trivial rfl (OV.load (p := (p16.1, p16.2 + (x11.2.2 : Int).toNat * 1)) rfl rfl hr22) ?_
      refine GL.val trivial rfl (OV.convInt rfl rfl rfl) ?_
      refine GL.val trivial rfl (OV.ibin (v := .int .i64 (w .i64 (x11.2.1 + (w .i64 x21)))) rfl rfl rfl) ?_
      refine GL.val trivial rfl (OV.move (v := slv p_b) rfl) ?_
      refine GL.val trivial rfl (OV.lenSl (s := p_b) rfl rfl) ?_
      refine GL.val trivial rfl (OV.minI rfl rfl) ?_
      refine GL.val trivial rfl (OV.assign (v := .int .i64 (if (Sl.len p_b : Int) < (w .i64 (x11.2.1 + (w .i64 x21))) then (Sl.len p_b : Int) else (w .i64 (x11.2.1 + (w .i64 x21))) : Int)) rfl) ?_
      refine GL.nil ?_
      refine GC.seq ?_
      refine GC.region ?_
      refine GL.val trivial rfl (OV.move (v := slv x11.1) rfl) ?_
      refine GL.val trivial rfl (OV.move (v := slv p_b) rfl) ?_
      refine GL.val trivial rfl (OV.move (v := .int .i64 x11.2.1) rfl) ?_
      refine GL.val trivial rfl (OV.move (v := .int .i64 (if (Sl.len p_b : Int) < (w .i64 (x11.2.1 + (w .i64 x21))) then (Sl.len p_b : Int) else (w .i64 (x11.2.1 + (w .i64 x21))) : Int)) rfl) ?_
      obtain ⟨h24, h25, h26, h27, t23, h28, h⟩ := h
      refine GL.val trivial rfl (OV.sliceSl (s := p_b) h24 h25 h26 h27 h28 rfl rfl rfl rfl rfl rfl rfl (fun h => by first | rfl | cases h) rfl rfl) ?_
      refine GL.appendLit (s := x11.1) (ys := [slv t23]) (zc := [slv Sl.nil]) (bytes := 24) h trivial rfl (fun _ => trivial) rfl (fun _ => rfl) (fun _ => rfl) (vs := [(0, slv t23)]) rfl ⟨30, fun _ => by kernel_rfl⟩ ⟨⟨_, _, _, rfl, rfl, rfl, rfl, rfl, rfl⟩⟩ rfl rfl ?_
      intro _ r29 H30 h
      refine GL.val trivial rfl (OV.assign (v := slv r29) rfl) ?_
      refine GL.nil ?_
      refine GC.region ?_
      refine GL.val trivial rfl (OV.move (v := .int .i64 (if (Sl.len p_b : Int) < (w .i64 (x11.2.1 + (w .i64 x21))) then (Sl.len p_b : Int) else (w .i64 (x11.2.1 + (w .i64 x21))) : Int)) rfl) ?_
      refine GL.val trivial rfl (OV.assign (v := .int .i64 (if (Sl.len p_b : Int) < (w .i64 (x11.2.1 + (w .i64 x21))) then (Sl.len p_b : Int) else (w .i64 (x11.2.1 + (w .i64 x21))) : Int)) rfl) ?_
      refine GL.nil_to (fun _ _ h => h) ?_
      refine GC.region ?_
      refine GL.val trivial rfl (OV.move (v := .int .i64 x11.2.2) rfl) ?_
      refine GL.val trivial rfl (OV.ibin (v := .int .i64 (w .i64 (x11.2.2 + 1))) rfl rfl rfl) ?_
      refine GL.val trivial rfl (OV.assign (v := .int .i64 (w .i64 (x11.2.2 + 1))) rfl) ?_
      exact GL.jump (fun _ _ h => h) (r29, (if (Sl.len p_b : Int) < (w .i64 (x11.2.1 + (w .i64 x21))) then (Sl.len p_b : Int) else (w .i64 (x11.2.1 + (w .i64 x21))) : Int), (w .i64 (x11.2.2 + 1))) h ⟨rfl, rfl, rfl, rfl, rfl, trivial⟩
    · replace h := And.right h hc15
      refine GC.exit_to (fun _ _ h => h) ?_
      refine GC.seq ?_
      refine GC.region ?_
      refine GL.val trivial rfl (OV.move (v := slv x11.1) rfl) ?_
      refine GL.val trivial rfl (OV.move (v := slv p_b) rfl) ?_
      refine GL.val trivial rfl (OV.move (v := .int .i64 x11.2.1) rfl) ?_
      obtain ⟨h32, h33, h34, h35, t31, h36, h⟩ := h
      refine GL.val trivial rfl (OV.sliceSl (s := p_b) h32 h33 h34 h35 h36 rfl rfl rfl rfl rfl rfl rfl (fun h => by first | rfl | cases h) rfl rfl) ?_
      refine GL.appendLit (s := x11.1) (ys := [slv t31]) (zc := [slv Sl.nil]) (bytes := 24) h trivial rfl (fun _ => trivial) rfl (fun _ => rfl) (fun _ => rfl) (vs := [(0, slv t31)]) rfl ⟨30, fun _ => by kernel_rfl⟩ ⟨⟨_, _, _, rfl, rfl, rfl, rfl, rfl, rfl⟩⟩ rfl rfl ?_
      intro _ r37 H38 h
      refine GL.val trivial rfl (OV.assign (v := slv r37) rfl) ?_
      refine GL.nil ?_
      refine GC.seq ?_
      refine GC.region ?_
      refine GL.val trivial rfl (OV.move (v := slv p_b) rfl) ?_
      refine GL.buildSlice (cs := [slv p_b]) h trivial rfl (vs := [(0, slv p_b)]) rfl ⟨30, fun _ => by kernel_rfl⟩ ?_
      intro b39 H40 h
      refine GL.call h trivial rfl ok_law30_fed (vs := [slv (Sl.of (some (b39, 0)) 1 1)]) rfl ?_
      rintro _ H44 ⟨r41, r42, r43, rfl, h⟩
      refine GL.val trivial rfl (OV.move (v := .tuple #[slv r41, .int .i64 r42, .int .i64 r43]) rfl) ?_
      refine GL.val trivial rfl (OV.extract (v := slv r41) rfl rfl) ?_
      refine GL.val trivial rfl (OV.extract (v := .int .i64 r42) rfl rfl) ?_
      refine GL.val trivial rfl (OV.extract (v := .int .i64 r43) rfl rfl) ?_
      refine GL.val trivial rfl (OV.assign (v := slv r41) rfl) ?_
      refine GL.val trivial rfl (OV.assign (v := .int .i64 r42) rfl) ?_
      refine GL.val trivial rfl (OV.assign (v := .int .i64 r43) rfl) ?_
      refine GL.nil ?_
      refine GC.seq ?_
      refine GC.region ?_
      refine GL.val trivial rfl (OV.move (v := slv r37) rfl) ?_
      refine GL.call h trivial rfl ok_law30_fed (vs := [slv r37]) rfl ?_
      rintro _ H48 ⟨r45, r46, r47, rfl, h⟩
      refine GL.val trivial rfl (OV.move (v := .tuple #[slv r45, .int .i64 r46, .int .i64 r47]) rfl) ?_
      refine GL.val trivial rfl (OV.extract (v := slv r45) rfl rfl) ?_
      refine GL.val trivial rfl (OV.extract (v := .int .i64 r46) rfl rfl) ?_
      refine GL.val trivial rfl (OV.extract (v := .int .i64 r47) rfl rfl) ?_
      refine GL.val trivial rfl (OV.assign (v := slv r45) rfl) ?_
      refine GL.val trivial rfl (OV.assign (v := .int .i64 r46) rfl) ?_
      refine GL.val trivial rfl (OV.assign (v := .int .i64 r47) rfl) ?_
      refine GL.nil ?_
      refine GC.seq ?_
      refine GC.region ?_
      refine GL.val trivial rfl (OV.move (v := slv r41) rfl) ?_
      refine GL.val trivial rfl (OV.move (v := slv r45) rfl) ?_
      refine GL.call h trivial rfl ok_ref30_Same (vs := [slv r41, slv r45]) rfl ?_
      rintro _ H50 ⟨r49, rfl, h⟩
      refine GL.val trivial rfl (OV.move (v := .bool r49) rfl) ?_
      refine GL.cut0 4 [(79, .bool (r49 && ((r42 : Int) == r46))), (11, .int .i64 r43), (14, .int .i64 r47)] ?_ ?_
      · rcases Bool.eq_false_or_eq_true r49 with hc51 | hc51
        · skip
          refine GL.val ⟨_, _, rfl, rfl, hc51⟩ rfl (OV.move (v := .int .i64 r42) rfl) ?_
          refine GL.val ⟨_, _, rfl, rfl, hc51⟩ rfl (OV.move (v := .int .i64 r46) rfl) ?_
          refine GL.val ⟨_, _, rfl, rfl, hc51⟩ rfl (OV.ibin (v := .bool ((r42 : Int) == r46)) rfl rfl rfl) ?_
          refine GL.val trivial rfl (OV.pickT (b := r49) (v := .bool ((r42 : Int) == r46)) rfl hc51 rfl) ?_
          exact GL.jump0 (fun _ _ h => h) () rfl ⟨(by rw [hc51]; rfl), rfl, rfl, trivial⟩
        · skip
          refine GL.skip ⟨_, rfl, .inl ⟨_, rfl, hc51⟩⟩ rfl ?_
          refine GL.skip ⟨_, rfl, .inl ⟨_, rfl, hc51⟩⟩ rfl ?_
          refine GL.skip ⟨_, rfl, .inl ⟨_, rfl, hc51⟩⟩ rfl ?_
          refine GL.val trivial rfl (OV.pickF (b := r49) (v := .bool false) rfl hc51 rfl) ?_
          exact GL.jump0 (fun _ _ h => h) () rfl ⟨(by rw [hc51]; rfl), rfl, rfl, trivial⟩
      refine GL.val trivial rfl (OV.move (v := .bool (r49 && ((r42 : Int) == r46))) rfl) ?_
      refine GL.cut0 4 [(84, .bool ((r49 && ((r42 : Int) == r46)) && ((r43 : Int) == r47)))] ?_ ?_
      · rcases Bool.eq_false_or_eq_true (r49 && ((r42 : Int) == r46)) with hc52 | hc52
        · skip
          refine GL.val ⟨_, _, rfl, rfl, hc52⟩ rfl (OV.move (v := .int .i64 r43) rfl) ?_
          refine GL.val ⟨_, _, rfl, rfl, hc52⟩ rfl (OV.move (v := .int .i64 r47) rfl) ?_
          refine GL.val ⟨_, _, rfl, rfl, hc52⟩ rfl (OV.ibin (v := .bool ((r43 : Int) == r47)) rfl rfl rfl) ?_
          refine GL.val trivial rfl (OV.pickT (b := r49 && ((r42 : Int) == r46)) (v := .bool ((r43 : Int) == r47)) rfl hc52 rfl) ?_
          exact GL.jump0 (fun _ _ h => h) () rfl ⟨(by rw [hc52]; rfl), trivial⟩
        · skip
          refine GL.skip ⟨_, rfl, .inl ⟨_, rfl, hc52⟩⟩ rfl ?_
          refine GL.skip ⟨_, rfl, .inl ⟨_, rfl, hc52⟩⟩ rfl ?_
          refine GL.skip ⟨_, rfl, .inl ⟨_, rfl, hc52⟩⟩ rfl ?_
          refine GL.val trivial rfl (OV.pickF (b := r49 && ((r42 : Int) == r46)) (v := .bool false) rfl hc52 rfl) ?_
          exact GL.jump0 (fun _ _ h => h) () rfl ⟨(by rw [hc52]; rfl), trivial⟩
      refine GL.val trivial rfl (OV.assign (v := .bool ((r49 && ((r42 : Int) == r46)) && ((r43 : Int) == r47))) rfl) ?_
      refine GL.nil ?_
      exact GC.ret (fun _ _ hf hs => post_tmp1 rfl rfl hf hs ⟨((r49 && ((r42 : Int) == r46)) && ((r43 : Int) == r47)), rfl, h⟩)

def sh_law30_FrameBack (C : Ctx) (p_l : Sl) (K : Bool → Heap → Prop) (H : Heap) : Prop :=
  lp (α := Int × Int) ((Sl.len p_l : Int), 0) H (fun x1 J2 H3 =>
 ift ((decide ((x1.2 : Int) < (Sl.len p_l : Int))) && (decide ((x1.1 : Int) < 5000)))
 (ixa p_l x1.2 fun p6 =>
 ldS H3 (p6.1, p6.2 + (x1.2 : Int).toNat * 1) fun x11 =>
 J2 ((w .i64 (x1.1 + (List.length x11 : Int))), (w .i64 (x1.2 + 1))) H3)
 (jn (α := Bool) (fun b13 H19 =>
 ift b13
 (c_law30_awake C (fun r21 H22 =>
 K r21 H22) H19)
 (lp (α := Str × Int) ([], 0) H19 (fun x23 J24 H25 =>
 ift (decide ((x23.2 : Int) < (Sl.len p_l : Int)))
 (ixa p_l x23.2 fun p27 =>
 ldS H25 (p27.1, p27.2 + (x23.2 : Int).toNat * 1) fun x32 =>
 c_frame_Write C x32 (fun r34 r35 H36 =>
 ift ((r35 : Int) != 0)
 (K false H36)
 (catOk x23.1 r34 ∧
 J24 ((x23.1 ++ r34), (w .i64 (x23.2 + 1))) H36)) H25)
 (s2b x23.1 (fun r39 H40 =>
 nw ([slv r39]) (fun b41 H42 =>
 c_law30_fed C (Sl.of (some (b41, 0)) 1 1) (fun r43 r44 r45 H46 =>
 jn (α := Bool) (fun b48 H54 =>
 K b48 H54)
 (fun J49 => ift (((r44 : Int) == 0) && ((r45 : Int) == 0))
 (c_ref30_Same C r43 p_l (fun r52 H53 =>
 J49 r52 H53) H46)
 (J49 false H46))) H42) H40) H25))))
 (fun J14 => ift (decide ((x1.1 : Int) ≥ 5000))
 (J14 true H3)
 (c_law30_awake C (fun r17 H18 =>
 J14 (!r17) H18) H3))))

theorem ad_law30_FrameBack (C : Ctx) (p_l : Sl) (K : Bool → Heap → Prop) (H : Heap) (h : sh_law30_FrameBack C p_l K H) : c_law30_FrameBack C p_l K H := by
  refine Spec.enter Try.func7 rfl Try.ntmps7 rfl ?_
  refine GC.sub [(0, slv p_l)] ⟨rfl, trivial⟩ ?_
  refine GC.seq ?_
  refine GC.region ?_
  refine GL.val trivial rfl (OV.assign (v := .bool false) rfl) ?_
  refine GL.nil ?_
  refine GC.seq ?_
  refine GC.region ?_
  refine GL.val trivial rfl (OV.move (v := slv p_l) rfl) ?_
  refine GL.val trivial rfl (OV.lenSl (s := p_l) rfl rfl) ?_
  refine GL.val trivial rfl (OV.assign (v := .int .i64 (Sl.len p_l : Int)) rfl) ?_
  refine GL.nil ?_
  refine GC.seq ?_
  refine GC.seq ?_
  refine GC.region ?_
  refine GL.val trivial rfl (OV.assign (v := .int .i64 0) rfl) ?_
  refine GL.nil ?_
  refine GC.block ?_
  refine GC.loop (α := Int × Int) h (fun x1 => [(3, .int .i64 x1.1), (4, .int .i64 x1.2), (0, slv p_l)]) ⟨rfl, rfl, rfl, trivial⟩ ?_
  intro x1 H3 J2 h
  refine GC.seq ?_
  refine GC.seq ?_
  refine GC.region ?_
  refine GL.val trivial rfl (OV.move (v := .int .i64 x1.2) rfl) ?_
  refine GL.val trivial rfl (OV.move (v := slv p_l) rfl) ?_
  refine GL.val trivial rfl (OV.lenSl (s := p_l) rfl rfl) ?_
  refine GL.val trivial rfl (OV.ibin (v := .bool (decide ((x1.2 : Int) < (Sl.len p_l : Int)))) rfl rfl rfl) ?_
  refine GL.val trivial rfl (OV.move (v := .bool (decide ((x1.2 : Int) < (Sl.len p_l : Int)))) rfl) ?_
  refine GL.cut0 3 [(21, .bool ((decide ((x1.2 : Int) < (Sl.len p_l : Int))) && (decide ((x1.1 : Int) < 5000)))), (0, slv p_l), (3, .int .i64 x1.1), (4, .int .i64 x1.2)] ?_ ?_
  · rcases Bool.eq_false_or_eq_true (decide ((x1.2 : Int) < (Sl.len p_l : Int))) with hc4 | hc4
    · skip
      refine GL.val ⟨_, _, rfl, rfl, hc4⟩ rfl (OV.move (v := .int .i64 x1.1) rfl) ?_
      refine GL.val ⟨_, _, rfl, rfl, hc4⟩ rfl (OV.ibin (v := .bool (decide ((x1.1 : Int) < 5000))) rfl rfl rfl) ?_
      refine GL.val trivial rfl (OV.pickT (b := decide ((x1.2 : Int) < (Sl.len p_l : Int))) (v := .bool (decide ((x1.1 : Int) < 5000))) rfl hc4 rfl) ?_
      exact GL.jump0 (fun _ _ h => h) () rfl ⟨(by rw [hc4]; rfl), rfl, rfl, rfl, trivial⟩
    · skip
      refine GL.skip ⟨_, rfl, .inl ⟨_, rfl, hc4⟩⟩ rfl ?_
      refine GL.skip ⟨_, rfl, .inl ⟨_, rfl, hc4⟩⟩ rfl ?_
      refine GL.val trivial rfl (OV.pickF (b := decide ((x1.2 : Int) < (Sl.len p_l : Int))) (v := .bool false) rfl hc4 rfl) ?_
      exact GL.jump0 (fun _ _ h => h) () rfl ⟨(by rw [hc4]; rfl), rfl, rfl, rfl, trivial⟩
  refine GL.nil ?_
  refine GC.cond (b := (decide ((x1.2 : Int) < (Sl.len p_l : Int))) && (decide ((x1.1 : Int) < 5000))) rfl (fun hc5 => ?_) (fun hc5 => ?_)
  · replace h := And.left h hc5
    refine GC.skip ?_
    refine GC.seq ?_
    refine GC.block ?_
    refine GC.region ?_
    refine GL.val trivial rfl (OV.move (v := .int .i64 x1.1) rfl) ?_
    refine GL.val trivial rfl (OV.move (v := slv p_l) rfl) ?_
    refine GL.val trivial rfl (OV.move (v := .int .i64 x1.2) rfl) ?_
    obtain ⟨p6, ha7, hb8, hc9, hd10, h⟩ := h
    refine GL.val trivial rfl (OV.indexAddr (s := p_l) rfl rfl rfl rfl ha7 hb8 hc9 hd10) ?_
    obtain ⟨x11, hr12, h⟩ := h
    refine GL.val trivial rfl (OV.load (p := (p6.1, p6.2 + (x1.2 : Int).toNat * 1)) rfl rfl hr12) ?_
    refine GL.val trivial rfl (OV.lenStr (s := x11) rfl rfl) ?_
    refine GL.val trivial rfl (OV.ibin (v := .int .i64 (w .i64 (x1.1 + (List.length x11 : Int)))) rfl rfl rfl) ?_
    refine GL.val trivial rfl (OV.assign (v := .int .i64 (w .i64 (x1.1 + (List.length x11 : Int)))) rfl) ?_
    refine GL.nil_to (fun _ _ h => h) ?_
    refine GC.region ?_
    refine GL.val trivial rfl (OV.move (v := .int .i64 x1.2) rfl) ?_
    refine GL.val trivial rfl (OV.ibin (v := .int .i64 (w .i64 (x1.2 + 1))) rfl rfl rfl) ?_
    refine GL.val trivial rfl (OV.assign (v := .int .i64 (w .i64 (x1.2 + 1))) rfl) ?_
    exact GL.jump (fun _ _ h => h) ((w .i64 (x1.1 + (List.length x11 : Int))), (w .i64 (x1.2 + 1))) h ⟨rfl, rfl, rfl, trivial⟩
  · replace h := And.right h hc5
    refine GC.exit_to (fun _ _ h => h) ?_
    refine GC.seq ?_
    refine GC.seq ?_
    refine GC.region ?_
    refine GL.val trivial rfl (OV.move (v := .int .i64 x1.1) rfl) ?_
    refine GL.val trivial rfl (OV.ibin (v := .bool (decide ((x1.1 : Int) ≥ 5000))) rfl rfl rfl) ?_
    refine GL.val trivial rfl (OV.move (v := .bool (decide ((x1.1 : Int) ≥ 5000))) rfl) ?_
    obtain ⟨J14, h, hR15⟩ := h
    refine GL.cut (α := Bool) 3 J14 (fun b13 => [(36, .bool b13), (0, slv p_l)]) ?_ ?_
    · rcases Bool.eq_false_or_eq_true (decide ((x1.1 : Int) ≥ 5000)) with hc16 | hc16
      · skip
        replace h := And.left h hc16
        refine GL.skip ⟨_, rfl, .inl ⟨_, rfl, hc16⟩⟩ rfl ?_
        refine GL.skip ⟨_, rfl, .inl ⟨_, rfl, hc16⟩⟩ rfl ?_
        refine GL.val trivial rfl (OV.pickT (b := decide ((x1.1 : Int) ≥ 5000)) (v := .bool true) rfl hc16 rfl) ?_
        exact GL.jump (fun _ _ h => h) true h ⟨rfl, rfl, trivial⟩
      · skip
        replace h := And.right h hc16
        refine GL.call h ⟨_, _, rfl, rfl, hc16⟩ rfl ok_law30_awake (vs := []) rfl ?_
        rintro _ H18 ⟨r17, rfl, h⟩
        refine GL.val ⟨_, _, rfl, rfl, hc16⟩ rfl (OV.not rfl) ?_
        refine GL.val trivial rfl (OV.pickF (b := decide ((x1.1 : Int) ≥ 5000)) (v := .bool (!r17)) rfl hc16 rfl) ?_
        exact GL.jump (fun _ _ h => h) (!r17) h ⟨rfl, rfl, trivial⟩
    intro b13 H19 h
    replace h := hR15 b13 H19 h
    refine GL.nil ?_
    refine GC.cond (b := b13) rfl (fun hc20 => ?_) (fun hc20 => ?_)
    · replace h := And.left h hc20
      refine GC.seq ?_
      refine GC.region ?_
      refine GL.call h trivial rfl ok_law30_awake (vs := []) rfl ?_
      rintro _ H22 ⟨r21, rfl, h⟩
      refine GL.val trivial rfl (OV.assign (v := .bool r21) rfl) ?_
      refine GL.nil ?_
      exact GC.ret (fun _ _ hf hs => post_tmp1 rfl rfl hf hs ⟨r21, rfl, h⟩)
    · replace h := And.right h hc20
      refine GC.skip ?_
      refine GC.seq ?_
      refine GC.region ?_
      refine GL.val trivial rfl (OV.assign (v := sv []) rfl) ?_
      refine GL.nil ?_
      refine GC.seq ?_
      refine GC.seq ?_
      refine GC.region ?_
      refine GL.val trivial rfl (OV.assign (v := .int .i64 0) rfl) ?_
      refine GL.nil ?_
      refine GC.block ?_
      refine GC.loop (α := Str × Int) h (fun x23 => [(5, sv x23.1), (6, .int .i64 x23.2), (0, slv p_l)]) ⟨rfl, rfl, rfl, trivial⟩ ?_
      intro x23 H25 J24 h
      refine GC.seq ?_
      refine GC.seq ?_
      refine GC.region ?_
      refine GL.val trivial rfl (OV.move (v := .int .i64 x23.2) rfl) ?_
      refine GL.val trivial rfl (OV.move (v := slv p_l) rfl) ?_
      refine GL.val trivial rfl (OV.lenSl (s := p_l) rfl rfl) ?_
      refine GL.val trivial rfl (OV.ibin (v := .bool (decide ((x23.2 : Int) < (Sl.len p_l : Int)))) rfl rfl rfl) ?_
      refine GL.nil ?_
      refine GC.cond (b := decide ((x23.2 : Int) < (Sl.len p_l : Int))) rfl (fun hc26 => ?_) (fun hc26 => ?_)
      · replace h := And.left h hc26
        refine GC.skip ?_
        refine GC.seq ?_
        refine GC.block ?_
        refine GC.seq ?_
        refine GC.region ?_
        refine GL.val trivial rfl (OV.move (v := slv p_l) rfl) ?_
        refine GL.val trivial rfl (OV.move (v := .int .i64 x23.2) rfl) ?_
        obtain ⟨p27, ha28, hb29, hc30, hd31, h⟩ := h
        refine GL.val trivial rfl (OV.indexAddr (s := p_l) rfl rfl rfl rfl ha28 hb29 hc30 hd31) ?_
        obtain ⟨x32, hr33, h⟩ := h
        refine GL.val trivial rfl (OV.load (p := (p27.1, p27.2 + (x23.2 : Int).toNat * 1)) rfl rfl hr33) ?_
        refine GL.call h trivial rfl ok_frame_Write (vs := [sv x32]) rfl ?_
        rintro _ H36 ⟨r34, r35, rfl, h⟩
        refine GL.val trivial rfl (OV.move (v := .tuple #[sv r34, .int .i64 r35]) rfl) ?_
        refine GL.val trivial rfl (OV.extract (v := sv r34) rfl rfl) ?_
        refine GL.val trivial rfl (OV.extract (v := .int .i64 r35) rfl rfl) ?_
        refine GL.val trivial rfl (OV.assign (v := sv r34) rfl) ?_
        refine GL.val trivial rfl (OV.assign (v := .int .i64 r35) rfl) ?_
        refine GL.nil ?_
        refine GC.seq ?_
        refine GC.seq ?_
        refine GC.region ?_
        refine GL.val trivial rfl (OV.move (v := .int .i64 r35) rfl) ?_
        refine GL.val trivial rfl (OV.ibin (v := .bool ((r35 : Int) != 0)) rfl rfl rfl) ?_
        refine GL.nil ?_
        refine GC.cond (b := (r35 : Int) != 0) rfl (fun hc37 => ?_) (fun hc37 => ?_)
        · replace h := And.left h hc37
          refine GC.seq ?_
          refine GC.region ?_
          refine GL.val trivial rfl (OV.assign (v := .bool false) rfl) ?_
          refine GL.nil ?_
          exact GC.ret (fun _ _ hf hs => post_tmp1 rfl rfl hf hs ⟨false, rfl, h⟩)
        · replace h := And.right h hc37
          refine GC.skip ?_
          refine GC.region ?_
          refine GL.val trivial rfl (OV.move (v := sv x23.1) rfl) ?_
          refine GL.val trivial rfl (OV.move (v := sv r34) rfl) ?_
          obtain ⟨hl38, h⟩ := h
          refine GL.val trivial rfl (OV.cat (a := x23.1) (b := r34) rfl rfl hl38) ?_
          refine GL.val trivial rfl (OV.assign (v := sv (x23.1 ++ r34)) rfl) ?_
          refine GL.nil_to (fun _ _ h => h) ?_
          refine GC.region ?_
          refine GL.val trivial rfl (OV.move (v := .int .i64 x23.2) rfl) ?_
          refine GL.val trivial rfl (OV.ibin (v := .int .i64 (w .i64 (x23.2 + 1))) rfl rfl rfl) ?_
          refine GL.val trivial rfl (OV.assign (v := .int .i64 (w .i64 (x23.2 + 1))) rfl) ?_
          exact GL.jump (fun _ _ h => h) ((x23.1 ++ r34), (w .i64 (x23.2 + 1))) h ⟨rfl, rfl, rfl, trivial⟩
      · replace h := And.right h hc26
        refine GC.exit_to (fun _ _ h => h) ?_
        refine GC.seq ?_
        refine GC.region ?_
        refine GL.val trivial rfl (OV.move (v := sv x23.1) rfl) ?_
        refine GL.s2b (s := x23.1) h trivial rfl rfl rfl rfl rfl ?_
        intro r39 H40 h
        refine GL.buildSlice (cs := [slv r39]) h trivial rfl (vs := [(0, slv r39)]) rfl ⟨30, fun _ => by kernel_rfl⟩ ?_
        intro b41 H42 h
        refine GL.call h trivial rfl ok_law30_fed (vs := [slv (Sl.of (some (b41, 0)) 1 1)]) rfl ?_
        rintro _ H46 ⟨r43, r44, r45, rfl, h⟩
        refine GL.val trivial rfl (OV.move (v := .tuple #[slv r43, .int .i64 r44, .int .i64 r45]) rfl) ?_
        refine GL.val trivial rfl (OV.extract (v := slv r43) rfl rfl) ?_
        refine GL.val trivial rfl (OV.extract (v := .int .i64 r44) rfl rfl) ?_
        refine GL.val trivial rfl (OV.extract (v := .int .i64 r45) rfl rfl) ?_
        refine GL.val trivial rfl (OV.assign (v := slv r43) rfl) ?_
        refine GL.val trivial rfl (OV.assign (v := .int .i64 r44) rfl) ?_
        refine GL.val trivial rfl (OV.assign (v := .int .i64 r45) rfl) ?_
        refine GL.nil ?_
        refine GC.seq ?_
        refine GC.region ?_
        refine GL.val trivial rfl (OV.move (v := .int .i64 r44) rfl) ?_
        refine GL.val trivial rfl (OV.ibin (v := .bool ((r44 : Int) == 0)) rfl rfl rfl) ?_
        refine GL.val trivial rfl (OV.move (v := .bool ((r44 : Int) == 0)) rfl) ?_
        refine GL.cut0 3 [(70, .bool (((r44 : Int) == 0) && ((r45 : Int) == 0))), (0, slv p_l), (9, slv r43)] ?_ ?_
        · rcases Bool.eq_false_or_eq_true ((r44 : Int) == 0) with hc47 | hc47
          · skip
            refine GL.val ⟨_, _, rfl, rfl, hc47⟩ rfl (OV.move (v := .int .i64 r45) rfl) ?_
            refine GL.val ⟨_, _, rfl, rfl, hc47⟩ rfl (OV.ibin (v := .bool ((r45 : Int) == 0)) rfl rfl rfl) ?_
            refine GL.val trivial rfl (OV.pickT (b := (r44 : Int) == 0) (v := .bool ((r45 : Int) == 0)) rfl hc47 rfl) ?_
            exact GL.jump0 (fun _ _ h => h) () rfl ⟨(by rw [hc47]; rfl), rfl, rfl, trivial⟩
          · skip
            refine GL.skip ⟨_, rfl, .inl ⟨_, rfl, hc47⟩⟩ rfl ?_
            refine GL.skip ⟨_, rfl, .inl ⟨_, rfl, hc47⟩⟩ rfl ?_
            refine GL.val trivial rfl (OV.pickF (b := (r44 : Int) == 0) (v := .bool false) rfl hc47 rfl) ?_
            exact GL.jump0 (fun _ _ h => h) () rfl ⟨(by rw [hc47]; rfl), rfl, rfl, trivial⟩
        refine GL.val trivial rfl (OV.move (v := .bool (((r44 : Int) == 0) && ((r45 : Int) == 0))) rfl) ?_
        obtain ⟨J49, h, hR50⟩ := h
        refine GL.cut (α := Bool) 4 J49 (fun b48 => [(75, .bool b48)]) ?_ ?_
        · rcases Bool.eq_false_or_eq_true (((r44 : Int) == 0) && ((r45 : Int) == 0)) with hc51 | hc51
          · skip
            replace h := And.left h hc51
            refine GL.val ⟨_, _, rfl, rfl, hc51⟩ rfl (OV.move (v := slv r43) rfl) ?_
            refine GL.val ⟨_, _, rfl, rfl, hc51⟩ rfl (OV.move (v := slv p_l) rfl) ?_
            refine GL.call h ⟨_, _, rfl, rfl, hc51⟩ rfl ok_ref30_Same (vs := [slv r43, slv p_l]) rfl ?_
            rintro _ H53 ⟨r52, rfl, h⟩
            refine GL.val trivial rfl (OV.pickT (b := ((r44 : Int) == 0) && ((r45 : Int) == 0)) (v := .bool r52) rfl hc51 rfl) ?_
            exact GL.jump (fun _ _ h => h) r52 h ⟨rfl, trivial⟩
          · skip
            replace h := And.right h hc51
            refine GL.skip ⟨_, rfl, .inl ⟨_, rfl, hc51⟩⟩ rfl ?_
            refine GL.skip ⟨_, rfl, .inl ⟨_, rfl, hc51⟩⟩ rfl ?_
            refine GL.skip ⟨_, rfl, .inl ⟨_, rfl, hc51⟩⟩ rfl ?_
            refine GL.val trivial rfl (OV.pickF (b := ((r44 : Int) == 0) && ((r45 : Int) == 0)) (v := .bool false) rfl hc51 rfl) ?_
            exact GL.jump (fun _ _ h => h) false h ⟨rfl, trivial⟩
        intro b48 H54 h
        replace h := hR50 b48 H54 h
        refine GL.val trivial rfl (OV.assign (v := .bool b48) rfl) ?_
        refine GL.nil ?_
        exact GC.ret (fun _ _ hf hs => post_tmp1 rfl rfl hf hs ⟨b48, rfl, h⟩)

def sh_law30_FrameBit (C : Ctx) (p_body : Str) (p_bit : Int) (K : Bool → Heap → Prop) (H : Heap) : Prop :=
  jn (α := Bool) (fun b1 H7 =>
 ift b1
 (c_law30_awake C (fun r9 H10 =>
 K r9 H10) H7)
 (c_frame_Write C p_body (fun r11 r12 H13 =>
 s2b r11 (fun r14 H15 =>
 (w .u64 (w .i64 (8 * (w .i64 ((List.length p_body : Int) + 4))))) ≠ 0 ∧
 dr H15 fun Hs17 =>
 ixa r14 (w .i64 (4 + (w .i64 (Int.tdiv (w .i64 (Int.tmod (w .u64 p_bit) (w .u64 (w .i64 (8 * (w .i64 ((List.length p_body : Int) + 4))))))) 8)))) fun p19 =>
 ldI Hs17 .u8 (p19.1, p19.2 + (w .i64 (4 + (w .i64 (Int.tdiv (w .i64 (Int.tmod (w .u64 p_bit) (w .u64 (w .i64 (8 * (w .i64 ((List.length p_body : Int) + 4))))))) 8))) : Int).toNat * 1) fun x24 =>
 0 ≤ (Int.tmod (w .i64 (Int.tmod (w .u64 p_bit) (w .u64 (w .i64 (8 * (w .i64 ((List.length p_body : Int) + 4))))))) 8) ∧
 ixa r14 (w .i64 (4 + (w .i64 (Int.tdiv (w .i64 (Int.tmod (w .u64 p_bit) (w .u64 (w .i64 (8 * (w .i64 ((List.length p_body : Int) + 4))))))) 8)))) fun p27 =>
 st (p27.1, p27.2 + (w .i64 (4 + (w .i64 (Int.tdiv (w .i64 (Int.tmod (w .u64 p_bit) (w .u64 (w .i64 (8 * (w .i64 ((List.length p_body : Int) + 4))))))) 8))) : Int).toNat * 1) (.int .u8 (bXor .u8 x24 (sShl .u8 1 (Int.tmod (w .i64 (Int.tmod (w .u64 p_bit) (w .u64 (w .i64 (8 * (w .i64 ((List.length p_body : Int) + 4))))))) 8)))) (fun H32 =>
 nw ([slv r14]) (fun b33 H34 =>
 c_law30_fed C (Sl.of (some (b33, 0)) 1 1) (fun r35 r36 r37 H38 =>
 K (((((r12 : Int) == 0) && ((r36 : Int) == 90)) && (((Sl.len r35 : Int) : Int) == 0)) && ((r37 : Int) == 0)) H38) H34) H32) H15) H13) H7))
 (fun J2 => ift (decide (((List.length p_body : Int) : Int) > 2000))
 (J2 true H)
 (c_law30_awake C (fun r5 H6 =>
 J2 (!r5) H6) H))

theorem ad_law30_FrameBit (C : Ctx) (p_body : Str) (p_bit : Int) (K : Bool → Heap → Prop) (H : Heap) (h : sh_law30_FrameBit C p_body p_bit K H) : c_law30_FrameBit C p_body p_bit K H := by
  refine Spec.enter Try.func8 rfl Try.ntmps8 rfl ?_
  refine GC.sub [(0, sv p_body), (1, .int .i64 p_bit)] ⟨rfl, rfl, trivial⟩ ?_
  refine GC.seq ?_
  refine GC.region ?_
  refine GL.val trivial rfl (OV.assign (v := .bool false) rfl) ?_
  refine GL.nil ?_
  refine GC.seq ?_
  refine GC.seq ?_
  refine GC.region ?_
  refine GL.val trivial rfl (OV.move (v := sv p_body) rfl) ?_
  refine GL.val trivial rfl (OV.lenStr (s := p_body) rfl rfl) ?_
  refine GL.val trivial rfl (OV.ibin (v := .bool (decide (((List.length p_body : Int) : Int) > 2000))) rfl rfl rfl) ?_
  refine GL.val trivial rfl (OV.move (v := .bool (decide (((List.length p_body : Int) : Int) > 2000))) rfl) ?_
  obtain ⟨J2, h, hR3⟩ := h
  refine GL.cut (α := Bool) 3 J2 (fun b1 => [(18, .bool b1), (0, sv p_body), (1, .int .i64 p_bit)]) ?_ ?_
  · rcases Bool.eq_false_or_eq_true (decide (((List.length p_body : Int) : Int) > 2000)) with hc4 | hc4
    · skip
      replace h := And.left h hc4
      refine GL.skip ⟨_, rfl, .inl ⟨_, rfl, hc4⟩⟩ rfl ?_
      refine GL.skip ⟨_, rfl, .inl ⟨_, rfl, hc4⟩⟩ rfl ?_
      refine GL.val trivial rfl (OV.pickT (b := decide (((List.length p_body : Int) : Int) > 2000)) (v := .bool true) rfl hc4 rfl) ?_
      exact GL.jump (fun _ _ h => h) true h ⟨rfl, rfl, rfl, trivial⟩
    · skip
      replace h := And.right h hc4
      refine GL.call h ⟨_, _, rfl, rfl, hc4⟩ rfl ok_law30_awake (vs := []) rfl ?_
      rintro _ H6 ⟨r5, rfl, h⟩
      refine GL.val ⟨_, _, rfl, rfl, hc4⟩ rfl (OV.not rfl) ?_
      refine GL.val trivial rfl (OV.pickF (b := decide (((List.length p_body : Int) : Int) > 2000)) (v := .bool (!r5)) rfl hc4 rfl) ?_
      exact GL.jump (fun _ _ h => h) (!r5) h ⟨rfl, rfl, rfl, trivial⟩
  intro b1 H7 h
  replace h := hR3 b1 H7 h
  refine GL.nil ?_
  refine GC.cond (b := b1) rfl (fun hc8 => ?_) (fun hc8 => ?_)
  · replace h := And.left h hc8
    refine GC.seq ?_
    refine GC.region ?_
    refine GL.call h trivial rfl ok_law30_awake (vs := []) rfl ?_
    rintro _ H10 ⟨r9, rfl, h⟩
    refine GL.val trivial rfl (OV.assign (v := .bool r9) rfl) ?_
    refine GL.nil ?_
    exact GC.ret (fun _ _ hf hs => post_tmp1 rfl rfl hf hs ⟨r9, rfl, h⟩)
  · replace h := And.right h hc8
    refine GC.skip ?_
    refine GC.seq ?_
    refine GC.region ?_
    refine GL.val trivial rfl (OV.move (v := sv p_body) rfl) ?_
    refine GL.call h trivial rfl ok_frame_Write (vs := [sv p_body]) rfl ?_
    rintro _ H13 ⟨r11, r12, rfl, h⟩
    refine GL.val trivial rfl (OV.move (v := .tuple #[sv r11, .int .i64 r12]) rfl) ?_
    refine GL.val trivial rfl (OV.extract (v := sv r11) rfl rfl) ?_
    refine GL.val trivial rfl (OV.extract (v := .int .i64 r12) rfl rfl) ?_
    refine GL.val trivial rfl (OV.assign (v := sv r11) rfl) ?_
    refine GL.val trivial rfl (OV.assign (v := .int .i64 r12) rfl) ?_
    refine GL.nil ?_
    refine GC.seq ?_
    refine GC.region ?_
    refine GL.val trivial rfl (OV.move (v := sv r11) rfl) ?_
    refine GL.s2b (s := r11) h trivial rfl rfl rfl rfl rfl ?_
    intro r14 H15 h
    refine GL.val trivial rfl (OV.assign (v := slv r14) rfl) ?_
    refine GL.nil ?_
    refine GC.seq ?_
    refine GC.region ?_
    refine GL.val trivial rfl (OV.move (v := .int .i64 p_bit) rfl) ?_
    refine GL.val trivial rfl (OV.convInt rfl rfl rfl) ?_
    refine GL.val trivial rfl (OV.move (v := sv p_body) rfl) ?_
    refine GL.val trivial rfl (OV.lenStr (s := p_body) rfl rfl) ?_
    refine GL.val trivial rfl (OV.ibin (v := .int .i64 (w .i64 ((List.length p_body : Int) + 4))) rfl rfl rfl) ?_
    refine GL.val trivial rfl (OV.ibin (v := .int .i64 (w .i64 (8 * (w .i64 ((List.length p_body : Int) + 4))))) rfl rfl rfl) ?_
    refine GL.val trivial rfl (OV.convInt rfl rfl rfl) ?_
    obtain ⟨hb16, h⟩ := h
    refine GL.val trivial rfl (OV.rem rfl rfl hb16) ?_
    refine GL.val trivial rfl (OV.convInt rfl rfl rfl) ?_
    refine GL.val trivial rfl (OV.assign (v := .int .i64 (w .i64 (Int.tmod (w .u64 p_bit) (w .u64 (w .i64 (8 * (w .i64 ((List.length p_body : Int) + 4)))))))) rfl) ?_
    refine GL.nil ?_
    refine GC.seq ?_
    obtain ⟨Hs17, hle18, h⟩ := h
    refine GC.tail (Hs := Hs17) 15 (by kernel_rfl) hle18 (by kernel_rfl) ?_
    refine GT.take 0 rfl (by kernel_rfl) (by kernel_rfl) (by kernel_rfl) rfl (fun _ _ _ h => by obtain ⟨_, _, _, h, _⟩ := h; cases h) trivial rfl (OV.move (v := slv r14) rfl) ?_
    refine GT.take 1 rfl (by kernel_rfl) (by kernel_rfl) (by kernel_rfl) rfl (fun _ _ _ h => by obtain ⟨_, _, _, h, _⟩ := h; cases h) trivial rfl (OV.move (v := .int .i64 (w .i64 (Int.tmod (w .u64 p_bit) (w .u64 (w .i64 (8 * (w .i64 ((List.length p_body : Int) + 4)))))))) rfl) ?_
    refine GT.take 2 rfl (by kernel_rfl) (by kernel_rfl) (by kernel_rfl) rfl (fun _ _ _ h => by obtain ⟨_, _, _, h, _⟩ := h; cases h) trivial rfl (OV.quo rfl rfl (by decide)) ?_
    refine GT.take 3 rfl (by kernel_rfl) (by kernel_rfl) (by kernel_rfl) rfl (fun _ _ _ h => by obtain ⟨_, _, _, h, _⟩ := h; cases h) trivial rfl (OV.ibin (v := .int .i64 (w .i64 (4 + (w .i64 (Int.tdiv (w .i64 (Int.tmod (w .u64 p_bit) (w .u64 (w .i64 (8 * (w .i64 ((List.length p_body : Int) + 4))))))) 8))))) rfl rfl rfl) ?_
    refine GT.take 4 rfl (by kernel_rfl) (by kernel_rfl) (by kernel_rfl) rfl (fun _ _ _ h => by obtain ⟨_, _, _, h, _⟩ := h; cases h) trivial rfl (OV.move (v := slv r14) rfl) ?_
    refine GT.take 5 rfl (by kernel_rfl) (by kernel_rfl) (by kernel_rfl) rfl (fun _ _ _ h => by obtain ⟨_, _, _, h, _⟩ := h; cases h) trivial rfl (OV.move (v := .int .i64 (w .i64 (Int.tmod (w .u64 p_bit) (w .u64 (w .i64 (8 * (w .i64 ((List.length p_body : Int) + 4)))))))) rfl) ?_
    refine GT.take 6 rfl (by kernel_rfl) (by kernel_rfl) (by kernel_rfl) rfl (fun _ _ _ h => by obtain ⟨_, _, _, h, _⟩ := h; cases h) trivial rfl (OV.quo rfl rfl (by decide)) ?_
    refine GT.take 7 rfl (by kernel_rfl) (by kernel_rfl) (by kernel_rfl) rfl (fun _ _ _ h => by obtain ⟨_, _, _, h, _⟩ := h; cases h) trivial rfl (OV.ibin (v := .int .i64 (w .i64 (4 + (w .i64 (Int.tdiv (w .i64 (Int.tmod (w .u64 p_bit) (w .u64 (w .i64 (8 * (w .i64 ((List.length p_body : Int) + 4))))))) 8))))) rfl rfl rfl) ?_
    obtain ⟨p19, ha20, hb21, hc22, hd23, h⟩ := h
    refine GT.take 8 rfl (by kernel_rfl) (by kernel_rfl) (by kernel_rfl) rfl (fun _ _ _ h => by obtain ⟨_, _, _, h, _⟩ := h; cases h) trivial rfl (OV.indexAddr (s := r14) rfl rfl rfl rfl ha20 hb21 hc22 hd23) ?_
    obtain ⟨x24, hr25, h⟩ := h
    refine GT.take 9 rfl (by kernel_rfl) (by kernel_rfl) (by kernel_rfl) rfl (fun _ _ _ h => by obtain ⟨_, _, _, h, _⟩ := h; cases h) trivial rfl (OV.load (p := (p19.1, p19.2 + (w .i64 (4 + (w .i64 (Int.tdiv (w .i64 (Int.tmod (w .u64 p_bit) (w .u64 (w .i64 (8 * (w .i64 ((List.length p_body : Int) + 4))))))) 8))) : Int).toNat * 1)) rfl rfl hr25) ?_
    refine GT.take 10 rfl (by kernel_rfl) (by kernel_rfl) (by kernel_rfl) rfl (fun _ _ _ h => by obtain ⟨_, _, _, h, _⟩ := h; cases h) trivial rfl (OV.move (v := .int .i64 (w .i64 (Int.tmod (w .u64 p_bit) (w .u64 (w .i64 (8 * (w .i64 ((List.length p_body : Int) + 4)))))))) rfl) ?_
    refine GT.take 11 rfl (by kernel_rfl) (by kernel_rfl) (by kernel_rfl) rfl (fun _ _ _ h => by obtain ⟨_, _, _, h, _⟩ := h; cases h) trivial rfl (OV.rem rfl rfl (by decide)) ?_
    obtain ⟨hb26, h⟩ := h
    refine GT.take 12 rfl (by kernel_rfl) (by kernel_rfl) (by kernel_rfl) rfl (fun _ _ _ h => by obtain ⟨_, _, _, h, _⟩ := h; cases h) trivial rfl (OV.shl rfl rfl hb26) ?_
    refine GT.take 13 rfl (by kernel_rfl) (by kernel_rfl) (by kernel_rfl) rfl (fun _ _ _ h => by obtain ⟨_, _, _, h, _⟩ := h; cases h) trivial rfl (OV.ibin (v := .int .u8 (bXor .u8 x24 (sShl .u8 1 (Int.tmod (w .i64 (Int.tmod (w .u64 p_bit) (w .u64 (w .i64 (8 * (w .i64 ((List.length p_body : Int) + 4))))))) 8)))) rfl rfl rfl) ?_
    obtain ⟨p27, ha28, hb29, hc30, hd31, h⟩ := h
    refine GT.take 14 rfl (by kernel_rfl) (by kernel_rfl) (by kernel_rfl) rfl (fun _ _ _ h => by obtain ⟨_, _, _, h, _⟩ := h; cases h) trivial rfl (OV.indexAddr (s := r14) rfl rfl rfl rfl ha28 hb29 hc30 hd31) ?_
    refine GT.done (by kernel_rfl) ?_
    show GL _ _ _ _ _ [_] _ _
    refine GL.store (p := (p27.1, p27.2 + (w .i64 (4 + (w .i64 (Int.tdiv (w .i64 (Int.tmod (w .u64 p_bit) (w .u64 (w .i64 (8 * (w .i64 ((List.length p_body : Int) + 4))))))) 8))) : Int).toNat * 1)) (v := .int .u8 (bXor .u8 x24 (sShl .u8 1 (Int.tmod (w .i64 (Int.tmod (w .u64 p_bit) (w .u64 (w .i64 (8 * (w .i64 ((List.length p_body : Int) + 4))))))) 8)))) h trivial rfl rfl rfl rfl ?_
    intro H32 h
    refine GL.nil ?_
    refine GC.seq ?_
    refine GC.region ?_
    refine GL.val trivial rfl (OV.move (v := slv r14) rfl) ?_
    refine GL.buildSlice (cs := [slv r14]) h trivial rfl (vs := [(0, slv r14)]) rfl ⟨30, fun _ => by kernel_rfl⟩ ?_
    intro b33 H34 h
    refine GL.call h trivial rfl ok_law30_fed (vs := [slv (Sl.of (some (b33, 0)) 1 1)]) rfl ?_
    rintro _ H38 ⟨r35, r36, r37, rfl, h⟩
    refine GL.val trivial rfl (OV.move (v := .tuple #[slv r35, .int .i64 r36, .int .i64 r37]) rfl) ?_
    refine GL.val trivial rfl (OV.extract (v := slv r35) rfl rfl) ?_
    refine GL.val trivial rfl (OV.extract (v := .int .i64 r36) rfl rfl) ?_
    refine GL.val trivial rfl (OV.extract (v := .int .i64 r37) rfl rfl) ?_
    refine GL.val trivial rfl (OV.assign (v := slv r35) rfl) ?_
    refine GL.val trivial rfl (OV.assign (v := .int .i64 r36) rfl) ?_
    refine GL.val trivial rfl (OV.assign (v := .int .i64 r37) rfl) ?_
    refine GL.nil ?_
    refine GC.seq ?_
    refine GC.region ?_
    refine GL.val trivial rfl (OV.move (v := .int .i64 r12) rfl) ?_
    refine GL.val trivial rfl (OV.ibin (v := .bool ((r12 : Int) == 0)) rfl rfl rfl) ?_
    refine GL.val trivial rfl (OV.move (v := .bool ((r12 : Int) == 0)) rfl) ?_
    refine GL.cut0 3 [(63, .bool (((r12 : Int) == 0) && ((r36 : Int) == 90))), (9, slv r35), (11, .int .i64 r37)] ?_ ?_
    · rcases Bool.eq_false_or_eq_true ((r12 : Int) == 0) with hc39 | hc39
      · skip
        refine GL.val ⟨_, _, rfl, rfl, hc39⟩ rfl (OV.move (v := .int .i64 r36) rfl) ?_
        refine GL.val ⟨_, _, rfl, rfl, hc39⟩ rfl (OV.ibin (v := .bool ((r36 : Int) == 90)) rfl rfl rfl) ?_
        refine GL.val trivial rfl (OV.pickT (b := (r12 : Int) == 0) (v := .bool ((r36 : Int) == 90)) rfl hc39 rfl) ?_
        exact GL.jump0 (fun _ _ h => h) () rfl ⟨(by rw [hc39]; rfl), rfl, rfl, trivial⟩
      · skip
        refine GL.skip ⟨_, rfl, .inl ⟨_, rfl, hc39⟩⟩ rfl ?_
        refine GL.skip ⟨_, rfl, .inl ⟨_, rfl, hc39⟩⟩ rfl ?_
        refine GL.val trivial rfl (OV.pickF (b := (r12 : Int) == 0) (v := .bool false) rfl hc39 rfl) ?_
        exact GL.jump0 (fun _ _ h => h) () rfl ⟨(by rw [hc39]; rfl), rfl, rfl, trivial⟩
    refine GL.val trivial rfl (OV.move (v := .bool (((r12 : Int) == 0) && ((r36 : Int) == 90))) rfl) ?_
    refine GL.cut0 4 [(68, .bool ((((r12 : Int) == 0) && ((r36 : Int) == 90)) && (((Sl.len r35 : Int) : Int) == 0))), (11, .int .i64 r37)] ?_ ?_
    · rcases Bool.eq_false_or_eq_true (((r12 : Int) == 0) && ((r36 : Int) == 90)) with hc40 | hc40
      · skip
        refine GL.val ⟨_, _, rfl, rfl, hc40⟩ rfl (OV.move (v := slv r35) rfl) ?_
        refine GL.val ⟨_, _, rfl, rfl, hc40⟩ rfl (OV.lenSl (s := r35) rfl rfl) ?_
        refine GL.val ⟨_, _, rfl, rfl, hc40⟩ rfl (OV.ibin (v := .bool (((Sl.len r35 : Int) : Int) == 0)) rfl rfl rfl) ?_
        refine GL.val trivial rfl (OV.pickT (b := ((r12 : Int) == 0) && ((r36 : Int) == 90)) (v := .bool (((Sl.len r35 : Int) : Int) == 0)) rfl hc40 rfl) ?_
        exact GL.jump0 (fun _ _ h => h) () rfl ⟨(by rw [hc40]; rfl), rfl, trivial⟩
      · skip
        refine GL.skip ⟨_, rfl, .inl ⟨_, rfl, hc40⟩⟩ rfl ?_
        refine GL.skip ⟨_, rfl, .inl ⟨_, rfl, hc40⟩⟩ rfl ?_
        refine GL.skip ⟨_, rfl, .inl ⟨_, rfl, hc40⟩⟩ rfl ?_
        refine GL.val trivial rfl (OV.pickF (b := ((r12 : Int) == 0) && ((r36 : Int) == 90)) (v := .bool false) rfl hc40 rfl) ?_
        exact GL.jump0 (fun _ _ h => h) () rfl ⟨(by rw [hc40]; rfl), rfl, trivial⟩
    refine GL.val trivial rfl (OV.move (v := .bool ((((r12 : Int) == 0) && ((r36 : Int) == 90)) && (((Sl.len r35 : Int) : Int) == 0))) rfl) ?_
    refine GL.cut0 3 [(72, .bool (((((r12 : Int) == 0) && ((r36 : Int) == 90)) && (((Sl.len r35 : Int) : Int) == 0)) && ((r37 : Int) == 0)))] ?_ ?_
    · rcases Bool.eq_false_or_eq_true ((((r12 : Int) == 0) && ((r36 : Int) == 90)) && (((Sl.len r35 : Int) : Int) == 0)) with hc41 | hc41
      · skip
        refine GL.val ⟨_, _, rfl, rfl, hc41⟩ rfl (OV.move (v := .int .i64 r37) rfl) ?_
        refine GL.val ⟨_, _, rfl, rfl, hc41⟩ rfl (OV.ibin (v := .bool ((r37 : Int) == 0)) rfl rfl rfl) ?_
        refine GL.val trivial rfl (OV.pickT (b := (((r12 : Int) == 0) && ((r36 : Int) == 90)) && (((Sl.len r35 : Int) : Int) == 0)) (v := .bool ((r37 : Int) == 0)) rfl hc41 rfl) ?_
        exact GL.jump0 (fun _ _ h => h) () rfl ⟨(by rw [hc41]; rfl), trivial⟩
      · skip
        refine GL.skip ⟨_, rfl, .inl ⟨_, rfl, hc41⟩⟩ rfl ?_
        refine GL.skip ⟨_, rfl, .inl ⟨_, rfl, hc41⟩⟩ rfl ?_
        refine GL.val trivial rfl (OV.pickF (b := (((r12 : Int) == 0) && ((r36 : Int) == 90)) && (((Sl.len r35 : Int) : Int) == 0)) (v := .bool false) rfl hc41 rfl) ?_
        exact GL.jump0 (fun _ _ h => h) () rfl ⟨(by rw [hc41]; rfl), trivial⟩
    refine GL.val trivial rfl (OV.assign (v := .bool (((((r12 : Int) == 0) && ((r36 : Int) == 90)) && (((Sl.len r35 : Int) : Int) == 0)) && ((r37 : Int) == 0))) rfl) ?_
    refine GL.nil ?_
    exact GC.ret (fun _ _ hf hs => post_tmp1 rfl rfl hf hs ⟨(((((r12 : Int) == 0) && ((r36 : Int) == 90)) && (((Sl.len r35 : Int) : Int) == 0)) && ((r37 : Int) == 0)), rfl, h⟩)

def sh_law30_awake (C : Ctx) (K : Bool → Heap → Prop) (H : Heap) : Prop :=
  c_frame_Write C [97] (fun r1 r2 H3 =>
 c_frame_New C (fun r4 H5 =>
 ift ((((r2 : Int) != 0) || (Option.isNone r4)) || (!(r1 == ([0, 0, 0, 1, 97, 232, 183, 190, 67] : Str))))
 (K false H5)
 (nw ([.int .u8 0, .int .u8 0]) (fun b9 H10 =>
 c_frame_Reader_Feed C r4 (Sl.of (some (b9, 0)) 2 2) (fun r11 r12 H13 =>
 nw ([.int .u8 0, .int .u8 1, .int .u8 97]) (fun b14 H15 =>
 cvB (Sl.of (some (b14, 0)) 3 3) (
 c_frame_Reader_Feed C r4 (Sl.of (some (b14, 0)) 3 3) (fun r16 r17 H18 =>
 nw ([.int .u8 232, .int .u8 183, .int .u8 190, .int .u8 67, .int .u8 0]) (fun b19 H20 =>
 cvB (Sl.of (some (b19, 0)) 5 5) (
 c_frame_Reader_Feed C r4 (Sl.of (some (b19, 0)) 5 5) (fun r21 r22 H23 =>
 jn (α := Bool) (fun b27 H35 =>
 jn (α := Bool) (fun b37 H43 =>
 jn (α := Bool) (fun b44 H50 =>
 K b44 H50)
 (fun J45 => ift b37
 (c_frame_Reader_Shut C r4 (fun r48 H49 =>
 J45 (!r48) H49) H43)
 (J45 false H43)))
 (fun J38 => ift (b27 && ((r22 : Int) == 0))
 (c_frame_Reader_Held C r4 (fun r41 H42 =>
 J38 ((r41 : Int) == 1) H42) H35)
 (J38 false H35)))
 (fun J28 => ift ((((((Sl.len r11 : Int) : Int) == 0) && ((r12 : Int) == 0)) && (((Sl.len r16 : Int) : Int) == 0)) && ((r17 : Int) == 0))
 (nw ([sv [97]]) (fun b31 H32 =>
 c_ref30_Same C r21 (Sl.of (some (b31, 0)) 1 1) (fun r33 H34 =>
 J28 r33 H34) H32) H23)
 (J28 false H23))) H20) H20) H18) H15) H15) H13) H10) H5)) H3) H

theorem ad_law30_awake (C : Ctx) (K : Bool → Heap → Prop) (H : Heap) (h : sh_law30_awake C  K H) : c_law30_awake C  K H := by
  refine Spec.enter Try.func9 rfl Try.ntmps9 rfl ?_
  refine GC.sub [] trivial ?_
  refine GC.seq ?_
  refine GC.region ?_
  refine GL.val trivial rfl (OV.assign (v := .bool false) rfl) ?_
  refine GL.nil ?_
  refine GC.seq ?_
  refine GC.region ?_
  refine GL.call h trivial rfl ok_frame_Write (vs := [sv [97]]) rfl ?_
  rintro _ H3 ⟨r1, r2, rfl, h⟩
  refine GL.val trivial rfl (OV.move (v := .tuple #[sv r1, .int .i64 r2]) rfl) ?_
  refine GL.val trivial rfl (OV.extract (v := sv r1) rfl rfl) ?_
  refine GL.val trivial rfl (OV.extract (v := .int .i64 r2) rfl rfl) ?_
  refine GL.val trivial rfl (OV.assign (v := sv r1) rfl) ?_
  refine GL.val trivial rfl (OV.assign (v := .int .i64 r2) rfl) ?_
  refine GL.nil ?_
  refine GC.seq ?_
  refine GC.region ?_
  refine GL.call h trivial rfl ok_frame_New (vs := []) rfl ?_
  rintro _ H5 ⟨r4, rfl, h⟩
  refine GL.val trivial rfl (OV.assign (v := pv r4) rfl) ?_
  refine GL.nil ?_
  refine GC.seq ?_
  refine GC.seq ?_
  refine GC.region ?_
  refine GL.val trivial rfl (OV.move (v := .int .i64 r2) rfl) ?_
  refine GL.val trivial rfl (OV.ibin (v := .bool ((r2 : Int) != 0)) rfl rfl rfl) ?_
  refine GL.val trivial rfl (OV.move (v := .bool ((r2 : Int) != 0)) rfl) ?_
  refine GL.cut0 3 [(20, .bool (((r2 : Int) != 0) || (Option.isNone r4))), (1, sv r1), (3, pv r4)] ?_ ?_
  · rcases Bool.eq_false_or_eq_true ((r2 : Int) != 0) with hc6 | hc6
    · skip
      refine GL.skip ⟨_, rfl, .inl ⟨_, rfl, hc6⟩⟩ rfl ?_
      refine GL.skip ⟨_, rfl, .inl ⟨_, rfl, hc6⟩⟩ rfl ?_
      refine GL.val trivial rfl (OV.pickT (b := (r2 : Int) != 0) (v := .bool true) rfl hc6 rfl) ?_
      exact GL.jump0 (fun _ _ h => h) () rfl ⟨(by rw [hc6]; rfl), rfl, rfl, trivial⟩
    · skip
      refine GL.val ⟨_, _, rfl, rfl, hc6⟩ rfl (OV.move (v := pv r4) rfl) ?_
      refine GL.val ⟨_, _, rfl, rfl, hc6⟩ rfl (OV.eqlNil (p := r4) rfl rfl rfl) ?_
      refine GL.val trivial rfl (OV.pickF (b := (r2 : Int) != 0) (v := .bool (Option.isNone r4)) rfl hc6 rfl) ?_
      exact GL.jump0 (fun _ _ h => h) () rfl ⟨(by rw [hc6]; rfl), rfl, rfl, trivial⟩
  refine GL.val trivial rfl (OV.move (v := .bool (((r2 : Int) != 0) || (Option.isNone r4))) rfl) ?_
  refine GL.cut0 3 [(24, .bool ((((r2 : Int) != 0) || (Option.isNone r4)) || (!(r1 == ([0, 0, 0, 1, 97, 232, 183, 190, 67] : Str))))), (3, pv r4)] ?_ ?_
  · rcases Bool.eq_false_or_eq_true (((r2 : Int) != 0) || (Option.isNone r4)) with hc7 | hc7
    · skip
      refine GL.skip ⟨_, rfl, .inl ⟨_, rfl, hc7⟩⟩ rfl ?_
      refine GL.skip ⟨_, rfl, .inl ⟨_, rfl, hc7⟩⟩ rfl ?_
      refine GL.val trivial rfl (OV.pickT (b := ((r2 : Int) != 0) || (Option.isNone r4)) (v := .bool true) rfl hc7 rfl) ?_
      exact GL.jump0 (fun _ _ h => h) () rfl ⟨(by rw [hc7]; rfl), rfl, trivial⟩
    · skip
      refine GL.val ⟨_, _, rfl, rfl, hc7⟩ rfl (OV.move (v := sv r1) rfl) ?_
      refine GL.val ⟨_, _, rfl, rfl, hc7⟩ rfl (OV.sbin (a := r1) (b := ([0, 0, 0, 1, 97, 232, 183, 190, 67] : Str)) (v := .bool (!(r1 == ([0, 0, 0, 1, 97, 232, 183, 190, 67] : Str)))) rfl rfl rfl) ?_
      refine GL.val trivial rfl (OV.pickF (b := ((r2 : Int) != 0) || (Option.isNone r4)) (v := .bool (!(r1 == ([0, 0, 0, 1, 97, 232, 183, 190, 67] : Str)))) rfl hc7 rfl) ?_
      exact GL.jump0 (fun _ _ h => h) () rfl ⟨(by rw [hc7]; rfl), rfl, trivial⟩
  refine GL.nil ?_
  refine GC.cond (b := (((r2 : Int) != 0) || (Option.isNone r4)) || (!(r1 == ([0, 0, 0, 1, 97, 232, 183, 190, 67] : Str)))) rfl (fun hc8 => ?_) (fun hc8 => ?_)
  · replace h := And.left h hc8
    refine GC.seq ?_
    refine GC.region ?_
    refine GL.val trivial rfl (OV.assign (v := .bool false) rfl) ?_
    refine GL.nil ?_
    exact GC.ret (fun _ _ hf hs => post_tmp1 rfl rfl hf hs ⟨false, rfl, h⟩)
  · replace h := And.right h hc8
    refine GC.skip ?_
    refine GC.seq ?_
    refine GC.region ?_
    refine GL.val trivial rfl (OV.move (v := pv r4) rfl) ?_
    refine GL.buildSlice (cs := [.int .u8 0, .int .u8 0]) h trivial rfl (vs := [(0, .int .u8 0), (1, .int .u8 0)]) rfl ⟨5, fun _ => by kernel_rfl⟩ ?_
    intro b9 H10 h
    refine GL.call h trivial rfl ok_frame_Reader_Feed (vs := [pv r4, slv (Sl.of (some (b9, 0)) 2 2)]) rfl ?_
    rintro _ H13 ⟨r11, r12, rfl, h⟩
    refine GL.val trivial rfl (OV.move (v := .tuple #[slv r11, .int .i64 r12]) rfl) ?_
    refine GL.val trivial rfl (OV.extract (v := slv r11) rfl rfl) ?_
    refine GL.val trivial rfl (OV.extract (v := .int .i64 r12) rfl rfl) ?_
    refine GL.val trivial rfl (OV.assign (v := slv r11) rfl) ?_
    refine GL.val trivial rfl (OV.assign (v := .int .i64 r12) rfl) ?_
    refine GL.nil ?_
    refine GC.seq ?_
    refine GC.region ?_
    refine GL.val trivial rfl (OV.move (v := pv r4) rfl) ?_
    refine GL.buildSlice (cs := [.int .u8 0, .int .u8 1, .int .u8 97]) h trivial rfl (vs := [(0, .int .u8 0), (1, .int .u8 1), (2, .int .u8 97)]) rfl ⟨5, fun _ => by kernel_rfl⟩ ?_
    intro b14 H15 h
    refine GL.cvB (s := (Sl.of (some (b14, 0)) 3 3)) h trivial rfl rfl rfl rfl (fun h => ?_)
    refine GL.call h trivial rfl ok_frame_Reader_Feed (vs := [pv r4, slv (Sl.of (some (b14, 0)) 3 3)]) rfl ?_
    rintro _ H18 ⟨r16, r17, rfl, h⟩
    refine GL.val trivial rfl (OV.move (v := .tuple #[slv r16, .int .i64 r17]) rfl) ?_
    refine GL.val trivial rfl (OV.extract (v := slv r16) rfl rfl) ?_
    refine GL.val trivial rfl (OV.extract (v := .int .i64 r17) rfl rfl) ?_
    refine GL.val trivial rfl (OV.assign (v := slv r16) rfl) ?_
    refine GL.val trivial rfl (OV.assign (v := .int .i64 r17) rfl) ?_
    refine GL.nil ?_
    refine GC.seq ?_
    refine GC.region ?_
    refine GL.val trivial rfl (OV.move (v := pv r4) rfl) ?_
    refine GL.buildSlice (cs := [.int .u8 232, .int .u8 183, .int .u8 190, .int .u8 67, .int .u8 0]) h trivial rfl (vs := [(0, .int .u8 232), (1, .int .u8 183), (2, .int .u8 190), (3, .int .u8 67), (4, .int .u8 0)]) rfl ⟨5, fun _ => by kernel_rfl⟩ ?_
    intro b19 H20 h
    refine GL.cvB (s := (Sl.of (some (b19, 0)) 5 5)) h trivial rfl rfl rfl rfl (fun h => ?_)
    refine GL.call h trivial rfl ok_frame_Reader_Feed (vs := [pv r4, slv (Sl.of (some (b19, 0)) 5 5)]) rfl ?_
    rintro _ H23 ⟨r21, r22, rfl, h⟩
    refine GL.val trivial rfl (OV.move (v := .tuple #[slv r21, .int .i64 r22]) rfl) ?_
    refine GL.val trivial rfl (OV.extract (v := slv r21) rfl rfl) ?_
    refine GL.val trivial rfl (OV.extract (v := .int .i64 r22) rfl rfl) ?_
    refine GL.val trivial rfl (OV.assign (v := slv r21) rfl) ?_
    refine GL.val trivial rfl (OV.assign (v := .int .i64 r22) rfl) ?_
    refine GL.nil ?_
    refine GC.seq ?_
    refine GC.region ?_
    refine GL.val trivial rfl (OV.move (v := slv r11) rfl) ?_
    refine GL.val trivial rfl (OV.lenSl (s := r11) rfl rfl) ?_
    refine GL.val trivial rfl (OV.ibin (v := .bool (((Sl.len r11 : Int) : Int) == 0)) rfl rfl rfl) ?_
    refine GL.val trivial rfl (OV.move (v := .bool (((Sl.len r11 : Int) : Int) == 0)) rfl) ?_
    refine GL.cut0 3 [(51, .bool ((((Sl.len r11 : Int) : Int) == 0) && ((r12 : Int) == 0))), (3, pv r4), (6, slv r16), (7, .int .i64 r17), (8, slv r21), (9, .int .i64 r22)] ?_ ?_
    · rcases Bool.eq_false_or_eq_true (((Sl.len r11 : Int) : Int) == 0) with hc24 | hc24
      · skip
        refine GL.val ⟨_, _, rfl, rfl, hc24⟩ rfl (OV.move (v := .int .i64 r12) rfl) ?_
        refine GL.val ⟨_, _, rfl, rfl, hc24⟩ rfl (OV.ibin (v := .bool ((r12 : Int) == 0)) rfl rfl rfl) ?_
        refine GL.val trivial rfl (OV.pickT (b := ((Sl.len r11 : Int) : Int) == 0) (v := .bool ((r12 : Int) == 0)) rfl hc24 rfl) ?_
        exact GL.jump0 (fun _ _ h => h) () rfl ⟨(by rw [hc24]; rfl), rfl, rfl, rfl, rfl, rfl, trivial⟩
      · skip
        refine GL.skip ⟨_, rfl, .inl ⟨_, rfl, hc24⟩⟩ rfl ?_
        refine GL.skip ⟨_, rfl, .inl ⟨_, rfl, hc24⟩⟩ rfl ?_
        refine GL.val trivial rfl (OV.pickF (b := ((Sl.len r11 : Int) : Int) == 0) (v := .bool false) rfl hc24 rfl) ?_
        exact GL.jump0 (fun _ _ h => h) () rfl ⟨(by rw [hc24]; rfl), rfl, rfl, rfl, rfl, rfl, trivial⟩
    refine GL.val trivial rfl (OV.move (v := .bool ((((Sl.len r11 : Int) : Int) == 0) && ((r12 : Int) == 0))) rfl) ?_
    refine GL.cut0 4 [(56, .bool (((((Sl.len r11 : Int) : Int) == 0) && ((r12 : Int) == 0)) && (((Sl.len r16 : Int) : Int) == 0))), (3, pv r4), (7, .int .i64 r17), (8, slv r21), (9, .int .i64 r22)] ?_ ?_
    · rcases Bool.eq_false_or_eq_true ((((Sl.len r11 : Int) : Int) == 0) && ((r12 : Int) == 0)) with hc25 | hc25
      · skip
        refine GL.val ⟨_, _, rfl, rfl, hc25⟩ rfl (OV.move (v := slv r16) rfl) ?_
        refine GL.val ⟨_, _, rfl, rfl, hc25⟩ rfl (OV.lenSl (s := r16) rfl rfl) ?_
        refine GL.val ⟨_, _, rfl, rfl, hc25⟩ rfl (OV.ibin (v := .bool (((Sl.len r16 : Int) : Int) == 0)) rfl rfl rfl) ?_
        refine GL.val trivial rfl (OV.pickT (b := (((Sl.len r11 : Int) : Int) == 0) && ((r12 : Int) == 0)) (v := .bool (((Sl.len r16 : Int) : Int) == 0)) rfl hc25 rfl) ?_
        exact GL.jump0 (fun _ _ h => h) () rfl ⟨(by rw [hc25]; rfl), rfl, rfl, rfl, rfl, trivial⟩
      · skip
        refine GL.skip ⟨_, rfl, .inl ⟨_, rfl, hc25⟩⟩ rfl ?_
        refine GL.skip ⟨_, rfl, .inl ⟨_, rfl, hc25⟩⟩ rfl ?_
        refine GL.skip ⟨_, rfl, .inl ⟨_, rfl, hc25⟩⟩ rfl ?_
        refine GL.val trivial rfl (OV.pickF (b := (((Sl.len r11 : Int) : Int) == 0) && ((r12 : Int) == 0)) (v := .bool false) rfl hc25 rfl) ?_
        exact GL.jump0 (fun _ _ h => h) () rfl ⟨(by rw [hc25]; rfl), rfl, rfl, rfl, rfl, trivial⟩
    refine GL.val trivial rfl (OV.move (v := .bool (((((Sl.len r11 : Int) : Int) == 0) && ((r12 : Int) == 0)) && (((Sl.len r16 : Int) : Int) == 0))) rfl) ?_
    refine GL.cut0 3 [(60, .bool ((((((Sl.len r11 : Int) : Int) == 0) && ((r12 : Int) == 0)) && (((Sl.len r16 : Int) : Int) == 0)) && ((r17 : Int) == 0))), (3, pv r4), (8, slv r21), (9, .int .i64 r22)] ?_ ?_
    · rcases Bool.eq_false_or_eq_true (((((Sl.len r11 : Int) : Int) == 0) && ((r12 : Int) == 0)) && (((Sl.len r16 : Int) : Int) == 0)) with hc26 | hc26
      · skip
        refine GL.val ⟨_, _, rfl, rfl, hc26⟩ rfl (OV.move (v := .int .i64 r17) rfl) ?_
        refine GL.val ⟨_, _, rfl, rfl, hc26⟩ rfl (OV.ibin (v := .bool ((r17 : Int) == 0)) rfl rfl rfl) ?_
        refine GL.val trivial rfl (OV.pickT (b := ((((Sl.len r11 : Int) : Int) == 0) && ((r12 : Int) == 0)) && (((Sl.len r16 : Int) : Int) == 0)) (v := .bool ((r17 : Int) == 0)) rfl hc26 rfl) ?_
        exact GL.jump0 (fun _ _ h => h) () rfl ⟨(by rw [hc26]; rfl), rfl, rfl, rfl, trivial⟩
      · skip
        refine GL.skip ⟨_, rfl, .inl ⟨_, rfl, hc26⟩⟩ rfl ?_
        refine GL.skip ⟨_, rfl, .inl ⟨_, rfl, hc26⟩⟩ rfl ?_
        refine GL.val trivial rfl (OV.pickF (b := ((((Sl.len r11 : Int) : Int) == 0) && ((r12 : Int) == 0)) && (((Sl.len r16 : Int) : Int) == 0)) (v := .bool false) rfl hc26 rfl) ?_
        exact GL.jump0 (fun _ _ h => h) () rfl ⟨(by rw [hc26]; rfl), rfl, rfl, rfl, trivial⟩
    refine GL.val trivial rfl (OV.move (v := .bool ((((((Sl.len r11 : Int) : Int) == 0) && ((r12 : Int) == 0)) && (((Sl.len r16 : Int) : Int) == 0)) && ((r17 : Int) == 0))) rfl) ?_
    obtain ⟨J28, h, hR29⟩ := h
    refine GL.cut (α := Bool) 4 J28 (fun b27 => [(65, .bool b27), (3, pv r4), (9, .int .i64 r22)]) ?_ ?_
    · rcases Bool.eq_false_or_eq_true ((((((Sl.len r11 : Int) : Int) == 0) && ((r12 : Int) == 0)) && (((Sl.len r16 : Int) : Int) == 0)) && ((r17 : Int) == 0)) with hc30 | hc30
      · skip
        replace h := And.left h hc30
        refine GL.val ⟨_, _, rfl, rfl, hc30⟩ rfl (OV.move (v := slv r21) rfl) ?_
        refine GL.buildSlice (cs := [sv [97]]) h ⟨_, _, rfl, rfl, hc30⟩ rfl (vs := [(0, sv [97])]) rfl ⟨9, fun _ => by kernel_rfl⟩ ?_
        intro b31 H32 h
        refine GL.call h ⟨_, _, rfl, rfl, hc30⟩ rfl ok_ref30_Same (vs := [slv r21, slv (Sl.of (some (b31, 0)) 1 1)]) rfl ?_
        rintro _ H34 ⟨r33, rfl, h⟩
        refine GL.val trivial rfl (OV.pickT (b := (((((Sl.len r11 : Int) : Int) == 0) && ((r12 : Int) == 0)) && (((Sl.len r16 : Int) : Int) == 0)) && ((r17 : Int) == 0)) (v := .bool r33) rfl hc30 rfl) ?_
        exact GL.jump (fun _ _ h => h) r33 h ⟨rfl, rfl, rfl, trivial⟩
      · skip
        replace h := And.right h hc30
        refine GL.skip ⟨_, rfl, .inl ⟨_, rfl, hc30⟩⟩ rfl ?_
        refine GL.skip ⟨_, rfl, .inl ⟨_, rfl, hc30⟩⟩ rfl ?_
        refine GL.skip ⟨_, rfl, .inl ⟨_, rfl, hc30⟩⟩ rfl ?_
        refine GL.val trivial rfl (OV.pickF (b := (((((Sl.len r11 : Int) : Int) == 0) && ((r12 : Int) == 0)) && (((Sl.len r16 : Int) : Int) == 0)) && ((r17 : Int) == 0)) (v := .bool false) rfl hc30 rfl) ?_
        exact GL.jump (fun _ _ h => h) false h ⟨rfl, rfl, rfl, trivial⟩
    intro b27 H35 h
    replace h := hR29 b27 H35 h
    refine GL.val trivial rfl (OV.move (v := .bool b27) rfl) ?_
    refine GL.cut0 3 [(69, .bool (b27 && ((r22 : Int) == 0))), (3, pv r4)] ?_ ?_
    · rcases Bool.eq_false_or_eq_true b27 with hc36 | hc36
      · skip
        refine GL.val ⟨_, _, rfl, rfl, hc36⟩ rfl (OV.move (v := .int .i64 r22) rfl) ?_
        refine GL.val ⟨_, _, rfl, rfl, hc36⟩ rfl (OV.ibin (v := .bool ((r22 : Int) == 0)) rfl rfl rfl) ?_
        refine GL.val trivial rfl (OV.pickT (b := b27) (v := .bool ((r22 : Int) == 0)) rfl hc36 rfl) ?_
        exact GL.jump0 (fun _ _ h => h) () rfl ⟨(by rw [hc36]; rfl), rfl, trivial⟩
      · skip
        refine GL.skip ⟨_, rfl, .inl ⟨_, rfl, hc36⟩⟩ rfl ?_
        refine GL.skip ⟨_, rfl, .inl ⟨_, rfl, hc36⟩⟩ rfl ?_
        refine GL.val trivial rfl (OV.pickF (b := b27) (v := .bool false) rfl hc36 rfl) ?_
        exact GL.jump0 (fun _ _ h => h) () rfl ⟨(by rw [hc36]; rfl), rfl, trivial⟩
    refine GL.val trivial rfl (OV.move (v := .bool (b27 && ((r22 : Int) == 0))) rfl) ?_
    obtain ⟨J38, h, hR39⟩ := h
    refine GL.cut (α := Bool) 4 J38 (fun b37 => [(74, .bool b37), (3, pv r4)]) ?_ ?_
    · rcases Bool.eq_false_or_eq_true (b27 && ((r22 : Int) == 0)) with hc40 | hc40
      · skip
        replace h := And.left h hc40
        refine GL.val ⟨_, _, rfl, rfl, hc40⟩ rfl (OV.move (v := pv r4) rfl) ?_
        refine GL.call h ⟨_, _, rfl, rfl, hc40⟩ rfl ok_frame_Reader_Held (vs := [pv r4]) rfl ?_
        rintro _ H42 ⟨r41, rfl, h⟩
        refine GL.val ⟨_, _, rfl, rfl, hc40⟩ rfl (OV.ibin (v := .bool ((r41 : Int) == 1)) rfl rfl rfl) ?_
        refine GL.val trivial rfl (OV.pickT (b := b27 && ((r22 : Int) == 0)) (v := .bool ((r41 : Int) == 1)) rfl hc40 rfl) ?_
        exact GL.jump (fun _ _ h => h) ((r41 : Int) == 1) h ⟨rfl, rfl, trivial⟩
      · skip
        replace h := And.right h hc40
        refine GL.skip ⟨_, rfl, .inl ⟨_, rfl, hc40⟩⟩ rfl ?_
        refine GL.skip ⟨_, rfl, .inl ⟨_, rfl, hc40⟩⟩ rfl ?_
        refine GL.skip ⟨_, rfl, .inl ⟨_, rfl, hc40⟩⟩ rfl ?_
        refine GL.val trivial rfl (OV.pickF (b := b27 && ((r22 : Int) == 0)) (v := .bool false) rfl hc40 rfl) ?_
        exact GL.jump (fun _ _ h => h) false h ⟨rfl, rfl, trivial⟩
    intro b37 H43 h
    replace h := hR39 b37 H43 h
    refine GL.val trivial rfl (OV.move (v := .bool b37) rfl) ?_
    obtain ⟨J45, h, hR46⟩ := h
    refine GL.cut (α := Bool) 4 J45 (fun b44 => [(79, .bool b44)]) ?_ ?_
    · rcases Bool.eq_false_or_eq_true b37 with hc47 | hc47
      · skip
        replace h := And.left h hc47
        refine GL.val ⟨_, _, rfl, rfl, hc47⟩ rfl (OV.move (v := pv r4) rfl) ?_
        refine GL.call h ⟨_, _, rfl, rfl, hc47⟩ rfl ok_frame_Reader_Shut (vs := [pv r4]) rfl ?_
        rintro _ H49 ⟨r48, rfl, h⟩
        refine GL.val ⟨_, _, rfl, rfl, hc47⟩ rfl (OV.not rfl) ?_
        refine GL.val trivial rfl (OV.pickT (b := b37) (v := .bool (!r48)) rfl hc47 rfl) ?_
        exact GL.jump (fun _ _ h => h) (!r48) h ⟨rfl, trivial⟩
      · skip
        replace h := And.right h hc47
        refine GL.skip ⟨_, rfl, .inl ⟨_, rfl, hc47⟩⟩ rfl ?_
        refine GL.skip ⟨_, rfl, .inl ⟨_, rfl, hc47⟩⟩ rfl ?_
        refine GL.skip ⟨_, rfl, .inl ⟨_, rfl, hc47⟩⟩ rfl ?_
        refine GL.val trivial rfl (OV.pickF (b := b37) (v := .bool false) rfl hc47 rfl) ?_
        exact GL.jump (fun _ _ h => h) false h ⟨rfl, trivial⟩
    intro b44 H50 h
    replace h := hR46 b44 H50 h
    refine GL.val trivial rfl (OV.assign (v := .bool b44) rfl) ?_
    refine GL.nil ?_
    exact GC.ret (fun _ _ hf hs => post_tmp1 rfl rfl hf hs ⟨b44, rfl, h⟩)

def sh_frame_Write (C : Ctx) (p_body : Str) (K : Str → Int → Heap → Prop) (H : Heap) : Prop :=
  ift (decide (((List.length p_body : Int) : Int) > 65536))
 (K [] 40 H)
 (c_frame_put C Sl.nil (w .u32 (List.length p_body : Int)) (fun r2 H3 =>
 apd [.int .u8 0] 1 r2 (bytesV p_body) (List.length p_body) (fun r4 H5 =>
 c_frame_Sum C p_body (fun r6 H7 =>
 c_frame_put C r4 r6 (fun r8 H9 =>
 b2s r8 (fun t10 =>
 K t10 0 H9) H9) H7) H5) H3) H)

theorem ad_frame_Write (C : Ctx) (p_body : Str) (K : Str → Int → Heap → Prop) (H : Heap) (h : sh_frame_Write C p_body K H) : c_frame_Write C p_body K H := by
  refine Spec.enter Try.func10 rfl Try.ntmps10 rfl ?_
  refine GC.sub [(0, sv p_body)] ⟨rfl, trivial⟩ ?_
  refine GC.seq ?_
  refine GC.region ?_
  refine GL.val trivial rfl (OV.assign (v := sv []) rfl) ?_
  refine GL.val trivial rfl (OV.assign (v := .int .i64 0) rfl) ?_
  refine GL.nil ?_
  refine GC.seq ?_
  refine GC.seq ?_
  refine GC.region ?_
  refine GL.val trivial rfl (OV.move (v := sv p_body) rfl) ?_
  refine GL.val trivial rfl (OV.lenStr (s := p_body) rfl rfl) ?_
  refine GL.val trivial rfl (OV.ibin (v := .bool (decide (((List.length p_body : Int) : Int) > 65536))) rfl rfl rfl) ?_
  refine GL.nil ?_
  refine GC.cond (b := decide (((List.length p_body : Int) : Int) > 65536)) rfl (fun hc1 => ?_) (fun hc1 => ?_)
  · replace h := And.left h hc1
    refine GC.seq ?_
    refine GC.region ?_
    refine GL.val trivial rfl (OV.assign (v := sv []) rfl) ?_
    refine GL.val trivial rfl (OV.assign (v := .int .i64 40) rfl) ?_
    refine GL.nil ?_
    exact GC.ret (fun _ _ hf hs => post_tmp2 rfl rfl rfl hf hs ⟨[], 40, rfl, h⟩)
  · replace h := And.right h hc1
    refine GC.skip ?_
    refine GC.seq ?_
    refine GC.region ?_
    refine GL.val trivial rfl (OV.move (v := sv p_body) rfl) ?_
    refine GL.val trivial rfl (OV.lenStr (s := p_body) rfl rfl) ?_
    refine GL.val trivial rfl (OV.convInt rfl rfl rfl) ?_
    refine GL.call h trivial rfl ok_frame_put (vs := [slv Sl.nil, .int .u32 (w .u32 (List.length p_body : Int))]) rfl ?_
    rintro _ H3 ⟨r2, rfl, h⟩
    refine GL.val trivial rfl (OV.move (v := sv p_body) rfl) ?_
    refine GL.appendStr (s := r2) (u := p_body) (bytes := 1) h trivial rfl rfl rfl ⟨⟨_, _, _, rfl, rfl, rfl, rfl, rfl, rfl⟩⟩ rfl ?_
    intro r4 H5 h
    refine GL.val trivial rfl (OV.assign (v := slv r4) rfl) ?_
    refine GL.nil ?_
    refine GC.seq ?_
    refine GC.region ?_
    refine GL.val trivial rfl (OV.move (v := slv r4) rfl) ?_
    refine GL.val trivial rfl (OV.move (v := sv p_body) rfl) ?_
    refine GL.call h trivial rfl ok_frame_Sum (vs := [sv p_body]) rfl ?_
    rintro _ H7 ⟨r6, rfl, h⟩
    refine GL.call h trivial rfl ok_frame_put (vs := [slv r4, .int .u32 r6]) rfl ?_
    rintro _ H9 ⟨r8, rfl, h⟩
    obtain ⟨t10, h11, h12, h⟩ := h
    refine GL.val trivial rfl (OV.b2s (b := r8) (s := t10) h11 h12 rfl rfl rfl rfl) ?_
    refine GL.val trivial rfl (OV.assign (v := sv t10) rfl) ?_
    refine GL.val trivial rfl (OV.assign (v := .int .i64 0) rfl) ?_
    refine GL.nil ?_
    exact GC.ret (fun _ _ hf hs => post_tmp2 rfl rfl rfl hf hs ⟨t10, 0, rfl, h⟩)

def sh_ref30_Write (C : Ctx) (p_body : Str) (K : Str → Int → Heap → Prop) (H : Heap) : Prop :=
  ift (decide (((List.length p_body : Int) : Int) > 65536))
 (K [] 40 H)
 (c_ref30_four C (w .u32 (List.length p_body : Int)) (fun r2 H3 =>
 catOk r2 p_body ∧
 c_ref30_Sum C p_body (fun r5 H6 =>
 c_ref30_four C r5 (fun r7 H8 =>
 catOk (r2 ++ p_body) r7 ∧
 K ((r2 ++ p_body) ++ r7) 0 H8) H6) H3) H)

theorem ad_ref30_Write (C : Ctx) (p_body : Str) (K : Str → Int → Heap → Prop) (H : Heap) (h : sh_ref30_Write C p_body K H) : c_ref30_Write C p_body K H := by
  refine Spec.enter Try.func11 rfl Try.ntmps11 rfl ?_
  refine GC.sub [(0, sv p_body)] ⟨rfl, trivial⟩ ?_
  refine GC.seq ?_
  refine GC.region ?_
  refine GL.val trivial rfl (OV.assign (v := sv []) rfl) ?_
  refine GL.val trivial rfl (OV.assign (v := .int .i64 0) rfl) ?_
  refine GL.nil ?_
  refine GC.seq ?_
  refine GC.seq ?_
  refine GC.region ?_
  refine GL.val trivial rfl (OV.move (v := sv p_body) rfl) ?_
  refine GL.val trivial rfl (OV.lenStr (s := p_body) rfl rfl) ?_
  refine GL.val trivial rfl (OV.ibin (v := .bool (decide (((List.length p_body : Int) : Int) > 65536))) rfl rfl rfl) ?_
  refine GL.nil ?_
  refine GC.cond (b := decide (((List.length p_body : Int) : Int) > 65536)) rfl (fun hc1 => ?_) (fun hc1 => ?_)
  · replace h := And.left h hc1
    refine GC.seq ?_
    refine GC.region ?_
    refine GL.val trivial rfl (OV.assign (v := sv []) rfl) ?_
    refine GL.val trivial rfl (OV.assign (v := .int .i64 40) rfl) ?_
    refine GL.nil ?_
    exact GC.ret (fun _ _ hf hs => post_tmp2 rfl rfl rfl hf hs ⟨[], 40, rfl, h⟩)
  · replace h := And.right h hc1
    refine GC.skip ?_
    refine GC.seq ?_
    refine GC.region ?_
    refine GL.val trivial rfl (OV.move (v := sv p_body) rfl) ?_
    refine GL.val trivial rfl (OV.lenStr (s := p_body) rfl rfl) ?_
    refine GL.val trivial rfl (OV.convInt rfl rfl rfl) ?_
    refine GL.call h trivial rfl ok_ref30_four (vs := [.int .u32 (w .u32 (List.length p_body : Int))]) rfl ?_
    rintro _ H3 ⟨r2, rfl, h⟩
    refine GL.val trivial rfl (OV.move (v := sv p_body) rfl) ?_
    obtain ⟨hl4, h⟩ := h
    refine GL.val trivial rfl (OV.cat (a := r2) (b := p_body) rfl rfl hl4) ?_
    refine GL.val trivial rfl (OV.move (v := sv p_body) rfl) ?_
    refine GL.call h trivial rfl ok_ref30_Sum (vs := [sv p_body]) rfl ?_
    rintro _ H6 ⟨r5, rfl, h⟩
    refine GL.call h trivial rfl ok_ref30_four (vs := [.int .u32 r5]) rfl ?_
    rintro _ H8 ⟨r7, rfl, h⟩
    obtain ⟨hl9, h⟩ := h
    refine GL.val trivial rfl (OV.cat (a := (r2 ++ p_body)) (b := r7) rfl rfl hl9) ?_
    refine GL.val trivial rfl (OV.assign (v := sv ((r2 ++ p_body) ++ r7)) rfl) ?_
    refine GL.val trivial rfl (OV.assign (v := .int .i64 0) rfl) ?_
    refine GL.nil ?_
    exact GC.ret (fun _ _ hf hs => post_tmp2 rfl rfl rfl hf hs ⟨((r2 ++ p_body) ++ r7), 0, rfl, h⟩)

def sh_frame_Sum (C : Ctx) (p_s : Str) (K : Int → Heap → Prop) (H : Heap) : Prop :=
  nw ([.int .u32 0]) (fun b1 H2 =>
 st (b1, 0) (.int .u32 4294967295) (fun H3 =>
 lp (α := Int) 0 H3 (fun x4 J5 H6 =>
 ift (decide ((x4 : Int) < (List.length p_s : Int)))
 (dr H6 fun Hs8 =>
 ldI Hs8 .u32 (b1, 0) fun x10 =>
 ixs p_s x4 fun c12 =>
 st (b1, 0) (.int .u32 (bXor .u32 x10 (w .u32 (c12.toNat : Int)))) (fun H15 =>
 lp (α := Int) 0 H15 (fun x16 J17 H18 =>
 ift (decide ((x16 : Int) < 8))
 (c_frame_Sum_1 C (b1, 0) (fun H20 =>
 J17 (w .i64 (x16 + 1)) H20) H18)
 (J5 (w .i64 (x4 + 1)) H18))) H6)
 (ldI H6 .u32 (b1, 0) fun x21 =>
 K (bXor .u32 (4294967295) x21) H6))) H2) H

theorem ad_frame_Sum (C : Ctx) (p_s : Str) (K : Int → Heap → Prop) (H : Heap) (h : sh_frame_Sum C p_s K H) : c_frame_Sum C p_s K H := by
  refine Spec.enter Try.func12 rfl Try.ntmps12 rfl ?_
  refine GC.sub [(0, sv p_s)] ⟨rfl, trivial⟩ ?_
  refine GC.seq ?_
  refine GC.region ?_
  refine GL.val trivial rfl (OV.assign (v := .int .u32 0) rfl) ?_
  refine GL.nil ?_
  refine GC.seq ?_
  refine GC.region ?_
  refine GL.alloc (cs := [.int .u32 0]) h trivial rfl rfl rfl ?_
  intro b1 H2 h
  refine GL.store (p := (b1, 0)) (v := .int .u32 4294967295) h trivial rfl rfl rfl rfl ?_
  intro H3 h
  refine GL.nil ?_
  refine GC.seq ?_
  refine GC.region ?_
  refine GL.val trivial rfl (OV.makeFunc (vs := []) (us := [pv (some (b1, 0))]) rfl rfl) ?_
  refine GL.val trivial rfl (OV.assign (v := .func (.func 24) (List.toArray []) (List.toArray [pv (some (b1, 0))])) rfl) ?_
  refine GL.nil ?_
  refine GC.seq ?_
  refine GC.seq ?_
  refine GC.region ?_
  refine GL.val trivial rfl (OV.move (v := sv p_s) rfl) ?_
  refine GL.val trivial rfl (OV.lenStr (s := p_s) rfl rfl) ?_
  refine GL.val trivial rfl (OV.move (v := .int .i64 0) rfl) ?_
  refine GL.nil ?_
  refine GC.block ?_
  refine GC.loop (α := Int) h (fun x4 => [(9, .int .i64 x4), (0, sv p_s), (3, pv (some (b1, 0))), (4, .func (.func 24) (List.toArray []) (List.toArray [pv (some (b1, 0))])), (8, .int .i64 (List.length p_s : Int))]) ⟨rfl, rfl, rfl, rfl, rfl, trivial⟩ ?_
  intro x4 H6 J5 h
  refine GC.seq ?_
  refine GC.region ?_
  refine GL.val trivial rfl (OV.ibin (v := .bool (decide ((x4 : Int) < (List.length p_s : Int)))) rfl rfl rfl) ?_
  refine GL.nil ?_
  refine GC.seq ?_
  refine GC.cond (b := decide ((x4 : Int) < (List.length p_s : Int))) rfl (fun hc7 => ?_) (fun hc7 => ?_)
  · replace h := And.left h hc7
    refine GC.skip ?_
    refine GC.seq ?_
    refine GC.block ?_
    refine GC.seq ?_
    refine GC.region ?_
    refine GL.val trivial rfl (OV.move (v := .int .i64 x4) rfl) ?_
    refine GL.val trivial rfl (OV.assign (v := .int .i64 x4) rfl) ?_
    refine GL.nil ?_
    refine GC.seq ?_
    obtain ⟨Hs8, hle9, h⟩ := h
    refine GC.tail (Hs := Hs8) 6 (by kernel_rfl) hle9 (by kernel_rfl) ?_
    obtain ⟨x10, hr11, h⟩ := h
    refine GT.take 0 rfl (by kernel_rfl) (by kernel_rfl) (by kernel_rfl) rfl (fun _ _ _ h => by obtain ⟨_, _, _, h, _⟩ := h; cases h) trivial rfl (OV.load (p := (b1, 0)) rfl rfl hr11) ?_
    refine GT.take 1 rfl (by kernel_rfl) (by kernel_rfl) (by kernel_rfl) rfl (fun _ _ _ h => by obtain ⟨_, _, _, h, _⟩ := h; cases h) trivial rfl (OV.move (v := sv p_s) rfl) ?_
    refine GT.take 2 rfl (by kernel_rfl) (by kernel_rfl) (by kernel_rfl) rfl (fun _ _ _ h => by obtain ⟨_, _, _, h, _⟩ := h; cases h) trivial rfl (OV.move (v := .int .i64 x4) rfl) ?_
    obtain ⟨c12, ha13, hb14, h⟩ := h
    refine GT.take 3 rfl (by kernel_rfl) (by kernel_rfl) (by kernel_rfl) rfl (fun _ _ _ h => by obtain ⟨_, _, _, h, _⟩ := h; cases h) trivial rfl (OV.indexStr (s := p_s) rfl rfl rfl ha13 hb14) ?_
    refine GT.take 4 rfl (by kernel_rfl) (by kernel_rfl) (by kernel_rfl) rfl (fun _ _ _ h => by obtain ⟨_, _, _, h, _⟩ := h; cases h) trivial rfl (OV.convInt rfl rfl rfl) ?_
    refine GT.take 5 rfl (by kernel_rfl) (by kernel_rfl) (by kernel_rfl) rfl (fun _ _ _ h => by obtain ⟨_, _, _, h, _⟩ := h; cases h) trivial rfl (OV.ibin (v := .int .u32 (bXor .u32 x10 (w .u32 (c12.toNat : Int)))) rfl rfl rfl) ?_
    refine GT.done (by kernel_rfl) ?_
    show GL _ _ _ _ _ [_] _ _
    refine GL.store (p := (b1, 0)) (v := .int .u32 (bXor .u32 x10 (w .u32 (c12.toNat : Int)))) h trivial rfl rfl rfl rfl ?_
    intro H15 h
    refine GL.nil ?_
    refine GC.seq ?_
    refine GC.region ?_
    refine GL.val trivial rfl (OV.move (v := .int .i64 0) rfl) ?_
    refine GL.nil ?_
    refine GC.block ?_
    refine GC.loop (α := Int) h (fun x16 => [(18, .int .i64 x16), (0, sv p_s), (3, pv (some (b1, 0))), (4, .func (.func 24) (List.toArray []) (List.toArray [pv (some (b1, 0))])), (8, .int .i64 (List.length p_s : Int)), (9, .int .i64 x4)]) ⟨rfl, rfl, rfl, rfl, rfl, rfl, trivial⟩ ?_
    intro x16 H18 J17 h
    refine GC.seq ?_
    refine GC.region ?_
    refine GL.val trivial rfl (OV.ibin (v := .bool (decide ((x16 : Int) < 8))) rfl rfl rfl) ?_
    refine GL.nil ?_
    refine GC.seq ?_
    refine GC.cond (b := decide ((x16 : Int) < 8)) rfl (fun hc19 => ?_) (fun hc19 => ?_)
    · replace h := And.left h hc19
      refine GC.skip ?_
      refine GC.seq ?_
      refine GC.block ?_
      refine GC.region ?_
      refine GL.val trivial rfl (OV.move (v := .func (.func 24) (List.toArray []) (List.toArray [pv (some (b1, 0))])) rfl) ?_
      refine GL.callV (fs := []) (vs := []) (cs := [pv (some (b1, 0))]) h trivial rfl ok_frame_Sum_1 rfl rfl ?_
      rintro _ H20 ⟨rfl, h⟩
      refine GL.nil_to (fun _ _ h => h) ?_
      refine GC.region ?_
      refine GL.val trivial rfl (OV.ibin (v := .int .i64 (w .i64 (x16 + 1))) rfl rfl rfl) ?_
      refine GL.val trivial rfl (OV.move (v := .int .i64 (w .i64 (x16 + 1))) rfl) ?_
      exact GL.jump (fun _ _ h => h) (w .i64 (x16 + 1)) h ⟨rfl, rfl, rfl, rfl, rfl, rfl, trivial⟩
    · replace h := And.right h hc19
      refine GC.exit_to (fun _ _ h => h) ?_
      refine GC.region ?_
      refine GL.val trivial rfl (OV.ibin (v := .int .i64 (w .i64 (x4 + 1))) rfl rfl rfl) ?_
      refine GL.val trivial rfl (OV.move (v := .int .i64 (w .i64 (x4 + 1))) rfl) ?_
      exact GL.jump (fun _ _ h => h) (w .i64 (x4 + 1)) h ⟨rfl, rfl, rfl, rfl, rfl, trivial⟩
  · replace h := And.right h hc7
    refine GC.exit_to (fun _ _ h => h) ?_
    refine GC.seq ?_
    refine GC.region ?_
    obtain ⟨x21, hr22, h⟩ := h
    refine GL.val trivial rfl (OV.load (p := (b1, 0)) rfl rfl hr22) ?_
    refine GL.val trivial rfl (OV.iun (v := .int .u32 (bXor .u32 (4294967295) x21)) rfl rfl) ?_
    refine GL.val trivial rfl (OV.assign (v := .int .u32 (bXor .u32 (4294967295) x21)) rfl) ?_
    refine GL.nil ?_
    exact GC.ret (fun _ _ hf hs => post_tmp1 rfl rfl hf hs ⟨(bXor .u32 (4294967295) x21), rfl, h⟩)

def sh_ref30_Sum (C : Ctx) (p_s : Str) (K : Int → Heap → Prop) (H : Heap) : Prop :=
  lp (α := Int × Int) (4294967295, 0) H (fun x1 J2 H3 =>
 ift (decide ((x1.2 : Int) < (List.length p_s : Int)))
 (ixs p_s x1.2 fun c5 =>
 lp (α := Int × Int) ((bXor .u32 x1.1 (w .u32 (c5.toNat : Int))), 0) H3 (fun x8 J9 H10 =>
 ift (decide ((x8.2 : Int) < 8))
 (jn (α := Int) (fun x13 H14 =>
 J9 (x13, (w .i64 (x8.2 + 1))) H14)
 (fun J12 => ift (((bAnd .u32 x8.1 1) : Int) == 1)
 (J12 (bXor .u32 (sShr .u32 x8.1 1) 3988292384) H10)
 (J12 (sShr .u32 x8.1 1) H10)))
 (J2 (x8.1, (w .i64 (x1.2 + 1))) H10)))
 (K (bXor .u32 (4294967295) x1.1) H3))

theorem ad_ref30_Sum (C : Ctx) (p_s : Str) (K : Int → Heap → Prop) (H : Heap) (h : sh_ref30_Sum C p_s K H) : c_ref30_Sum C p_s K H := by
  refine Spec.enter Try.func13 rfl Try.ntmps13 rfl ?_
  refine GC.sub [(0, sv p_s)] ⟨rfl, trivial⟩ ?_
  refine GC.seq ?_
  refine GC.region ?_
  refine GL.val trivial rfl (OV.assign (v := .int .u32 0) rfl) ?_
  refine GL.nil ?_
  refine GC.seq ?_
  refine GC.region ?_
  refine GL.val trivial rfl (OV.assign (v := .int .u32 4294967295) rfl) ?_
  refine GL.nil ?_
  refine GC.seq ?_
  refine GC.seq ?_
  refine GC.region ?_
  refine GL.val trivial rfl (OV.assign (v := .int .i64 0) rfl) ?_
  refine GL.nil ?_
  refine GC.block ?_
  refine GC.loop (α := Int × Int) h (fun x1 => [(3, .int .u32 x1.1), (4, .int .i64 x1.2), (0, sv p_s)]) ⟨rfl, rfl, rfl, trivial⟩ ?_
  intro x1 H3 J2 h
  refine GC.seq ?_
  refine GC.seq ?_
  refine GC.region ?_
  refine GL.val trivial rfl (OV.move (v := .int .i64 x1.2) rfl) ?_
  refine GL.val trivial rfl (OV.move (v := sv p_s) rfl) ?_
  refine GL.val trivial rfl (OV.lenStr (s := p_s) rfl rfl) ?_
  refine GL.val trivial rfl (OV.ibin (v := .bool (decide ((x1.2 : Int) < (List.length p_s : Int)))) rfl rfl rfl) ?_
  refine GL.nil ?_
  refine GC.cond (b := decide ((x1.2 : Int) < (List.length p_s : Int))) rfl (fun hc4 => ?_) (fun hc4 => ?_)
  · replace h := And.left h hc4
    refine GC.skip ?_
    refine GC.seq ?_
    refine GC.block ?_
    refine GC.seq ?_
    refine GC.region ?_
    refine GL.val trivial rfl (OV.move (v := .int .u32 x1.1) rfl) ?_
    refine GL.val trivial rfl (OV.move (v := sv p_s) rfl) ?_
    refine GL.val trivial rfl (OV.move (v := .int .i64 x1.2) rfl) ?_
    obtain ⟨c5, ha6, hb7, h⟩ := h
    refine GL.val trivial rfl (OV.indexStr (s := p_s) rfl rfl rfl ha6 hb7) ?_
    refine GL.val trivial rfl (OV.convInt rfl rfl rfl) ?_
    refine GL.val trivial rfl (OV.ibin (v := .int .u32 (bXor .u32 x1.1 (w .u32 (c5.toNat : Int)))) rfl rfl rfl) ?_
    refine GL.val trivial rfl (OV.assign (v := .int .u32 (bXor .u32 x1.1 (w .u32 (c5.toNat : Int)))) rfl) ?_
    refine GL.nil ?_
    refine GC.seq ?_
    refine GC.region ?_
    refine GL.val trivial rfl (OV.assign (v := .int .i64 0) rfl) ?_
    refine GL.nil ?_
    refine GC.block ?_
    refine GC.loop (α := Int × Int) h (fun x8 => [(3, .int .u32 x8.1), (5, .int .i64 x8.2), (0, sv p_s), (4, .int .i64 x1.2)]) ⟨rfl, rfl, rfl, rfl, trivial⟩ ?_
    intro x8 H10 J9 h
    refine GC.seq ?_
    refine GC.seq ?_
    refine GC.region ?_
    refine GL.val trivial rfl (OV.move (v := .int .i64 x8.2) rfl) ?_
    refine GL.val trivial rfl (OV.ibin (v := .bool (decide ((x8.2 : Int) < 8))) rfl rfl rfl) ?_
    refine GL.nil ?_
    refine GC.cond (b := decide ((x8.2 : Int) < 8)) rfl (fun hc11 => ?_) (fun hc11 => ?_)
    · replace h := And.left h hc11
      refine GC.skip ?_
      obtain ⟨J12, h, hR15⟩ := h
      refine GC.join (α := Int) J12 (fun x13 => [(3, .int .u32 x13), (0, sv p_s), (4, .int .i64 x1.2), (5, .int .i64 x8.2)]) ?_ ?_
      · skip
        refine GC.block ?_
        refine GC.seq ?_
        refine GC.region ?_
        refine GL.val trivial rfl (OV.move (v := .int .u32 x8.1) rfl) ?_
        refine GL.val trivial rfl (OV.ibin (v := .int .u32 (bAnd .u32 x8.1 1)) rfl rfl rfl) ?_
        refine GL.val trivial rfl (OV.assign (v := .int .u32 (bAnd .u32 x8.1 1)) rfl) ?_
        refine GL.nil ?_
        refine GC.seq ?_
        refine GC.region ?_
        refine GL.val trivial rfl (OV.move (v := .int .u32 x8.1) rfl) ?_
        refine GL.val trivial rfl (OV.shr rfl rfl (by decide)) ?_
        refine GL.val trivial rfl (OV.assign (v := .int .u32 (sShr .u32 x8.1 1)) rfl) ?_
        refine GL.nil ?_
        refine GC.seq ?_
        refine GC.region ?_
        refine GL.val trivial rfl (OV.move (v := .int .u32 (bAnd .u32 x8.1 1)) rfl) ?_
        refine GL.val trivial rfl (OV.ibin (v := .bool (((bAnd .u32 x8.1 1) : Int) == 1)) rfl rfl rfl) ?_
        refine GL.nil ?_
        refine GC.cond (b := ((bAnd .u32 x8.1 1) : Int) == 1) rfl (fun hc16 => ?_) (fun hc16 => ?_)
        · replace h := And.left h hc16
          refine GC.region ?_
          refine GL.val trivial rfl (OV.move (v := .int .u32 (sShr .u32 x8.1 1)) rfl) ?_
          refine GL.val trivial rfl (OV.ibin (v := .int .u32 (bXor .u32 (sShr .u32 x8.1 1) 3988292384)) rfl rfl rfl) ?_
          refine GL.val trivial rfl (OV.assign (v := .int .u32 (bXor .u32 (sShr .u32 x8.1 1) 3988292384)) rfl) ?_
          exact GL.jump (fun _ _ h => h) (bXor .u32 (sShr .u32 x8.1 1) 3988292384) h ⟨rfl, rfl, rfl, rfl, trivial⟩
        · replace h := And.right h hc16
          exact GC.jump (fun _ _ h => h) (sShr .u32 x8.1 1) h ⟨rfl, rfl, rfl, rfl, trivial⟩
      · intro x13 H14 h
        replace h := hR15 x13 H14 h
        refine GC.region ?_
        refine GL.val trivial rfl (OV.move (v := .int .i64 x8.2) rfl) ?_
        refine GL.val trivial rfl (OV.ibin (v := .int .i64 (w .i64 (x8.2 + 1))) rfl rfl rfl) ?_
        refine GL.val trivial rfl (OV.assign (v := .int .i64 (w .i64 (x8.2 + 1))) rfl) ?_
        exact GL.jump (fun _ _ h => h) (x13, (w .i64 (x8.2 + 1))) h ⟨rfl, rfl, rfl, rfl, trivial⟩
    · replace h := And.right h hc11
      refine GC.exit_to (fun _ _ h => h) ?_
      refine GC.region ?_
      refine GL.val trivial rfl (OV.move (v := .int .i64 x1.2) rfl) ?_
      refine GL.val trivial rfl (OV.ibin (v := .int .i64 (w .i64 (x1.2 + 1))) rfl rfl rfl) ?_
      refine GL.val trivial rfl (OV.assign (v := .int .i64 (w .i64 (x1.2 + 1))) rfl) ?_
      exact GL.jump (fun _ _ h => h) (x8.1, (w .i64 (x1.2 + 1))) h ⟨rfl, rfl, rfl, trivial⟩
  · replace h := And.right h hc4
    refine GC.exit_to (fun _ _ h => h) ?_
    refine GC.seq ?_
    refine GC.region ?_
    refine GL.val trivial rfl (OV.move (v := .int .u32 x1.1) rfl) ?_
    refine GL.val trivial rfl (OV.iun (v := .int .u32 (bXor .u32 (4294967295) x1.1)) rfl rfl) ?_
    refine GL.val trivial rfl (OV.assign (v := .int .u32 (bXor .u32 (4294967295) x1.1)) rfl) ?_
    refine GL.nil ?_
    exact GC.ret (fun _ _ hf hs => post_tmp1 rfl rfl hf hs ⟨(bXor .u32 (4294967295) x1.1), rfl, h⟩)

def sh_frame_New (C : Ctx) (K : Option (Nat × Nat) → Heap → Prop) (H : Heap) : Prop :=
  nw (T_frame_Reader.c (⟨Sl.nil, false⟩ : T_frame_Reader)) (fun b1 H2 =>
 K (some (b1, 0)) H2) H

theorem ad_frame_New (C : Ctx) (K : Option (Nat × Nat) → Heap → Prop) (H : Heap) (h : sh_frame_New C  K H) : c_frame_New C  K H := by
  refine Spec.enter Try.func14 rfl Try.ntmps14 rfl ?_
  refine GC.sub [] trivial ?_
  refine GC.seq ?_
  refine GC.region ?_
  refine GL.val trivial rfl (OV.assign (v := pv none) rfl) ?_
  refine GL.nil ?_
  refine GC.seq ?_
  refine GC.region ?_
  refine GL.val trivial rfl (OV.build (vs := []) (v := .agg (T_frame_Reader.c (⟨Sl.nil, false⟩ : T_frame_Reader)).toArray) rfl (fun _ => by kernel_rfl)) ?_
  refine GL.box (v := .agg (T_frame_Reader.c (⟨Sl.nil, false⟩ : T_frame_Reader)).toArray) (cs := T_frame_Reader.c (⟨Sl.nil, false⟩ : T_frame_Reader)) h trivial rfl rfl rfl ?_
  intro b1 H2 h
  refine GL.val trivial rfl (OV.assign (v := pv (some (b1, 0))) rfl) ?_
  refine GL.nil ?_
  exact GC.ret (fun _ _ hf hs => post_tmp1 rfl rfl hf hs ⟨(some (b1, 0)), rfl, h⟩)

def sh_frame_Reader_Feed (C : Ctx) (p_r : Option (Nat × Nat)) (p_chunk : Sl) (K : Sl → Int → Heap → Prop) (H : Heap) : Prop :=
  ift (Option.isNone p_r)
 (K Sl.nil 2 H)
 (nck p_r fun p2 =>
 ldB H (p2.1, p2.2 + 1) fun x4 =>
 ift x4
 (K Sl.nil 50 H)
 (nck p_r fun p7 =>
 ldL H (p7.1, p7.2 + 0) fun x9 =>
 apS ([.int .u8 0]) 1 x9 p_chunk (fun r11 H12 =>
 jn (α := Sl × Sl) (fun x14 H15 =>
 slL x14.1 0 (Sl.len x14.1 : Int) (Sl.len x14.1 : Int) 1 fun t59 =>
 nck p_r fun p65 =>
 st (p65.1, p65.2 + 0) (slv t59) (fun H67 =>
 K x14.2 0 H67) H15)
 (fun J13 => lp (α := Sl × Sl) (r11, Sl.nil) H12 (fun x17 J18 H19 =>
 ift (decide (((Sl.len x17.1 : Int) : Int) ≥ 4))
 (c_frame_get C x17.1 (fun r21 H22 =>
 ift (decide ((r21 : Int) > 65536))
 (c_frame_Reader_close C p_r x17.2 40 (fun r24 r25 H26 =>
 K r24 r25 H26) H22)
 (ift (decide (((Sl.len x17.1 : Int) : Int) < (w .i64 ((w .i64 (4 + (w .i64 r21))) + 4))))
 (J13 (x17.1, x17.2) H22)
 (slL x17.1 4 (w .i64 (4 + (w .i64 r21))) (Sl.cap x17.1 : Int) 1 fun t28 =>
 b2s t28 (fun t34 =>
 slL x17.1 (w .i64 (4 + (w .i64 r21))) (Sl.len x17.1 : Int) (Sl.cap x17.1 : Int) 1 fun t37 =>
 c_frame_get C t37 (fun r43 H44 =>
 c_frame_Sum C t34 (fun r45 H46 =>
 ift ((r43 : Int) != r45)
 (c_frame_Reader_close C p_r x17.2 90 (fun r48 r49 H50 =>
 K r48 r49 H50) H46)
 (apd ([sv []]) 16 x17.2 ([sv t34]) 1 (fun r51 H52 =>
 slL x17.1 (w .i64 ((w .i64 (4 + (w .i64 r21))) + 4)) (Sl.len x17.1 : Int) (Sl.cap x17.1 : Int) 1 fun t53 =>
 J18 (t53, r51) H52) H46)) H44) H22) H22))) H19)
 (J13 (x17.1, x17.2) H19)))) H))

theorem ad_frame_Reader_Feed (C : Ctx) (p_r : Option (Nat × Nat)) (p_chunk : Sl) (K : Sl → Int → Heap → Prop) (H : Heap) (h : sh_frame_Reader_Feed C p_r p_chunk K H) : c_frame_Reader_Feed C p_r p_chunk K H := by
  refine Spec.enter Try.func15 rfl Try.ntmps15 rfl ?_
  refine GC.sub [(0, pv p_r), (1, slv p_chunk)] ⟨rfl, rfl, trivial⟩ ?_
  refine GC.seq ?_
  refine GC.region ?_
  refine GL.val trivial rfl (OV.assign (v := slv Sl.nil) rfl) ?_
  refine GL.val trivial rfl (OV.assign (v := .int .i64 0) rfl) ?_
  refine GL.nil ?_
  refine GC.seq ?_
  refine GC.block ?_
  refine GC.seq ?_
  refine GC.region ?_
  refine GL.val trivial rfl (OV.move (v := pv p_r) rfl) ?_
  refine GL.val trivial rfl (OV.eqlNil (p := p_r) rfl rfl rfl) ?_
  refine GL.val trivial rfl (OV.assign (v := .bool (Option.isNone p_r)) rfl) ?_
  refine GL.nil ?_
  refine GC.cond (b := Option.isNone p_r) rfl (fun hc1 => ?_) (fun hc1 => ?_)
  · replace h := And.left h hc1
    refine GC.seq ?_
    refine GC.region ?_
    refine GL.val trivial rfl (OV.assign (v := slv Sl.nil) rfl) ?_
    refine GL.val trivial rfl (OV.assign (v := .int .i64 2) rfl) ?_
    refine GL.nil ?_
    exact GC.ret (fun _ _ hf hs => post_tmp2 rfl rfl rfl hf hs ⟨Sl.nil, 2, rfl, h⟩)
  · replace h := And.right h hc1
    refine GC.seq ?_
    refine GC.region ?_
    refine GL.val trivial rfl (OV.move (v := pv p_r) rfl) ?_
    obtain ⟨p2, hp3, h⟩ := h
    refine GL.val trivial rfl (OV.nilCheck (q := p_r) rfl hp3) ?_
    refine GL.val trivial rfl (OV.fieldAddr (p := p2) rfl rfl) ?_
    obtain ⟨x4, hr5, h⟩ := h
    refine GL.val trivial rfl (OV.load (p := (p2.1, p2.2 + 1)) rfl rfl hr5) ?_
    refine GL.val trivial rfl (OV.assign (v := .bool x4) rfl) ?_
    refine GL.nil ?_
    refine GC.cond (b := x4) rfl (fun hc6 => ?_) (fun hc6 => ?_)
    · replace h := And.left h hc6
      refine GC.seq ?_
      refine GC.region ?_
      refine GL.val trivial rfl (OV.assign (v := slv Sl.nil) rfl) ?_
      refine GL.val trivial rfl (OV.assign (v := .int .i64 50) rfl) ?_
      refine GL.nil ?_
      exact GC.ret (fun _ _ hf hs => post_tmp2 rfl rfl rfl hf hs ⟨Sl.nil, 50, rfl, h⟩)
    · replace h := And.right h hc6
      refine GC.skip_to (fun _ _ h => h) ?_
      refine GC.seq ?_
      refine GC.region ?_
      refine GL.val trivial rfl (OV.move (v := pv p_r) rfl) ?_
      obtain ⟨p7, hp8, h⟩ := h
      refine GL.val trivial rfl (OV.nilCheck (q := p_r) rfl hp8) ?_
      refine GL.val trivial rfl (OV.fieldAddr (p := p7) rfl rfl) ?_
      obtain ⟨x9, hr10, h⟩ := h
      refine GL.val trivial rfl (OV.load (p := (p7.1, p7.2 + 0)) rfl rfl hr10) ?_
      refine GL.val trivial rfl (OV.move (v := slv p_chunk) rfl) ?_
      refine GL.appendS (s := x9) (s2 := p_chunk) (zc := [.int .u8 0]) (bytes := 1) h trivial rfl rfl rfl ⟨⟨_, _, _, rfl, rfl, rfl, rfl, rfl, rfl⟩⟩ rfl ?_
      intro r11 H12 h
      refine GL.val trivial rfl (OV.assign (v := slv r11) rfl) ?_
      refine GL.nil ?_
      refine GC.seq ?_
      refine GC.region ?_
      refine GL.val trivial rfl (OV.assign (v := slv Sl.nil) rfl) ?_
      refine GL.nil ?_
      obtain ⟨J13, h, hR16⟩ := h
      refine GC.join (α := Sl × Sl) J13 (fun x14 => [(6, slv x14.1), (7, slv x14.2), (0, pv p_r)]) ?_ ?_
      · skip
        refine GC.block ?_
        refine GC.loop (α := Sl × Sl) h (fun x17 => [(6, slv x17.1), (7, slv x17.2), (0, pv p_r)]) ⟨rfl, rfl, rfl, trivial⟩ ?_
        intro x17 H19 J18 h
        refine GC.seq ?_
        refine GC.seq ?_
        refine GC.region ?_
        refine GL.val trivial rfl (OV.move (v := slv x17.1) rfl) ?_
        refine GL.val trivial rfl (OV.lenSl (s := x17.1) rfl rfl) ?_
        refine GL.val trivial rfl (OV.ibin (v := .bool (decide (((Sl.len x17.1 : Int) : Int) ≥ 4))) rfl rfl rfl) ?_
        refine GL.nil ?_
        refine GC.cond (b := decide (((Sl.len x17.1 : Int) : Int) ≥ 4)) rfl (fun hc20 => ?_) (fun hc20 => ?_)
        · replace h := And.left h hc20
          refine GC.skip ?_
          refine GC.block ?_
          refine GC.seq ?_
          refine GC.region ?_
          refine GL.val trivial rfl (OV.move (v := slv x17.1) rfl) ?_
          refine GL.call h trivial rfl ok_frame_get (vs := [slv x17.1]) rfl ?_
          rintro _ H22 ⟨r21, rfl, h⟩
          refine GL.val trivial rfl (OV.assign (v := .int .u32 r21) rfl) ?_
          refine GL.nil ?_
          refine GC.seq ?_
          refine GC.seq ?_
          refine GC.region ?_
          refine GL.val trivial rfl (OV.move (v := .int .u32 r21) rfl) ?_
          refine GL.val trivial rfl (OV.ibin (v := .bool (decide ((r21 : Int) > 65536))) rfl rfl rfl) ?_
          refine GL.nil ?_
          refine GC.cond (b := decide ((r21 : Int) > 65536)) rfl (fun hc23 => ?_) (fun hc23 => ?_)
          · replace h := And.left h hc23
            refine GC.seq ?_
            refine GC.region ?_
            refine GL.val trivial rfl (OV.move (v := pv p_r) rfl) ?_
            refine GL.val trivial rfl (OV.move (v := slv x17.2) rfl) ?_
            refine GL.call h trivial rfl ok_frame_Reader_close (vs := [pv p_r, slv x17.2, .int .i64 40]) rfl ?_
            rintro _ H26 ⟨r24, r25, rfl, h⟩
            refine GL.val trivial rfl (OV.extract (v := slv r24) rfl rfl) ?_
            refine GL.val trivial rfl (OV.extract (v := .int .i64 r25) rfl rfl) ?_
            refine GL.val trivial rfl (OV.assign (v := slv r24) rfl) ?_
            refine GL.val trivial rfl (OV.assign (v := .int .i64 r25) rfl) ?_
            refine GL.nil ?_
            exact GC.ret (fun _ _ hf hs => post_tmp2 rfl rfl rfl hf hs ⟨r24, r25, rfl, h⟩)
          · replace h := And.right h hc23
            refine GC.skip ?_
            refine GC.seq ?_
            refine GC.region ?_
            refine GL.val trivial rfl (OV.move (v := .int .u32 r21) rfl) ?_
            refine GL.val trivial rfl (OV.convInt rfl rfl rfl) ?_
            refine GL.val trivial rfl (OV.ibin (v := .int .i64 (w .i64 (4 + (w .i64 r21)))) rfl rfl rfl) ?_
            refine GL.val trivial rfl (OV.assign (v := .int .i64 (w .i64 (4 + (w .i64 r21)))) rfl) ?_
            refine GL.nil ?_
            refine GC.seq ?_
            refine GC.seq ?_
            refine GC.region ?_
            refine GL.val trivial rfl (OV.move (v := slv x17.1) rfl) ?_
            refine GL.val trivial rfl (OV.lenSl (s := x17.1) rfl rfl) ?_
            refine GL.val trivial rfl (OV.move (v := .int .i64 (w .i64 (4 + (w .i64 r21)))) rfl) ?_
            refine GL.val trivial rfl (OV.ibin (v := .int .i64 (w .i64 ((w .i64 (4 + (w .i64 r21))) + 4))) rfl rfl rfl) ?_
            refine GL.val trivial rfl (OV.ibin (v := .bool (decide (((Sl.len x17.1 : Int) : Int) < (w .i64 ((w .i64 (4 + (w .i64 r21))) + 4))))) rfl rfl rfl) ?_
            refine GL.nil ?_
            refine GC.cond (b := decide (((Sl.len x17.1 : Int) : Int) < (w .i64 ((w .i64 (4 + (w .i64 r21))) + 4)))) rfl (fun hc27 => ?_) (fun hc27 => ?_)
            · replace h := And.left h hc27
              exact GC.exit_jump (fun _ _ h => h) (x17.1, x17.2) h ⟨rfl, rfl, rfl, trivial⟩
            · replace h := And.right h hc27
              refine GC.skip ?_
              refine GC.seq ?_
              refine GC.region ?_
              refine GL.val trivial rfl (OV.move (v := slv x17.1) rfl) ?_
              refine GL.val trivial rfl (OV.move (v := .int .i64 (w .i64 (4 + (w .i64 r21)))) rfl) ?_
              obtain ⟨h29, h30, h31, h32, t28, h33, h⟩ := h
              refine GL.val trivial rfl (OV.sliceSl (s := x17.1) h29 h30 h31 h32 h33 rfl rfl rfl rfl rfl rfl rfl (fun h => by first | rfl | cases h) rfl rfl) ?_
              obtain ⟨t34, h35, h36, h⟩ := h
              refine GL.val trivial rfl (OV.b2s (b := t28) (s := t34) h35 h36 rfl rfl rfl rfl) ?_
              refine GL.val trivial rfl (OV.assign (v := sv t34) rfl) ?_
              refine GL.nil ?_
              refine GC.seq ?_
              refine GC.seq ?_
              refine GC.region ?_
              refine GL.val trivial rfl (OV.move (v := slv x17.1) rfl) ?_
              refine GL.val trivial rfl (OV.move (v := .int .i64 (w .i64 (4 + (w .i64 r21)))) rfl) ?_
              obtain ⟨h38, h39, h40, h41, t37, h42, h⟩ := h
              refine GL.val trivial rfl (OV.sliceSl (s := x17.1) h38 h39 h40 h41 h42 rfl rfl rfl rfl rfl rfl rfl (fun h => by first | rfl | cases h) rfl rfl) ?_
              refine GL.call h trivial rfl ok_frame_get (vs := [slv t37]) rfl ?_
              rintro _ H44 ⟨r43, rfl, h⟩
              refine GL.val trivial rfl (OV.move (v := sv t34) rfl) ?_
              refine GL.call h trivial rfl ok_frame_Sum (vs := [sv t34]) rfl ?_
              rintro _ H46 ⟨r45, rfl, h⟩
              refine GL.val trivial rfl (OV.ibin (v := .bool ((r43 : Int) != r45)) rfl rfl rfl) ?_
              refine GL.nil ?_
              refine GC.cond (b := (r43 : Int) != r45) rfl (fun hc47 => ?_) (fun hc47 => ?_)
              · replace h := And.left h hc47
                refine GC.seq ?_
                refine GC.region ?_
                refine GL.val trivial rfl (OV.move (v := pv p_r) rfl) ?_
                refine GL.val trivial rfl (OV.move (v := slv x17.2) rfl) ?_
                refine GL.call h trivial rfl ok_frame_Reader_close (vs := [pv p_r, slv x17.2, .int .i64 90]) rfl ?_
                rintro _ H50 ⟨r48, r49, rfl, h⟩
                refine GL.val trivial rfl (OV.extract (v := slv r48) rfl rfl) ?_
                refine GL.val trivial rfl (OV.extract (v := .int .i64 r49) rfl rfl) ?_
                refine GL.val trivial rfl (OV.assign (v := slv r48) rfl) ?_
                refine GL.val trivial rfl (OV.assign (v := .int .i64 r49) rfl) ?_
                refine GL.nil ?_
                exact GC.ret (fun _ _ hf hs => post_tmp2 rfl rfl rfl hf hs ⟨r48, r49, rfl, h⟩)
              · replace h := And.right h hc47
                refine GC.skip ?_
                refine GC.seq ?_
                refine GC.region ?_
                refine GL.val trivial rfl (OV.move (v := slv x17.2) rfl) ?_
                refine GL.val trivial rfl (OV.move (v := sv t34) rfl) ?_
                refine GL.appendLit (s := x17.2) (ys := [sv t34]) (zc := [sv []]) (bytes := 16) h trivial rfl (fun _ => trivial) rfl (fun _ => rfl) (fun _ => rfl) (vs := [(0, sv t34)]) rfl ⟨9, fun _ => by kernel_rfl⟩ ⟨⟨_, _, _, rfl, rfl, rfl, rfl, rfl, rfl⟩⟩ rfl rfl ?_
                intro _ r51 H52 h
                refine GL.val trivial rfl (OV.assign (v := slv r51) rfl) ?_
                refine GL.nil ?_
                refine GC.region ?_
                refine GL.val trivial rfl (OV.move (v := slv x17.1) rfl) ?_
                refine GL.val trivial rfl (OV.move (v := .int .i64 (w .i64 (4 + (w .i64 r21)))) rfl) ?_
                refine GL.val trivial rfl (OV.ibin (v := .int .i64 (w .i64 ((w .i64 (4 + (w .i64 r21))) + 4))) rfl rfl rfl) ?_
                obtain ⟨h54, h55, h56, h57, t53, h58, h⟩ := h
                refine GL.val trivial rfl (OV.sliceSl (s := x17.1) h54 h55 h56 h57 h58 rfl rfl rfl rfl rfl rfl rfl (fun h => by first | rfl | cases h) rfl rfl) ?_
                refine GL.val trivial rfl (OV.assign (v := slv t53) rfl) ?_
                exact GL.jump (fun _ _ h => h) (t53, r51) h ⟨rfl, rfl, rfl, trivial⟩
        · replace h := And.right h hc20
          exact GC.exit_jump (fun _ _ h => h) (x17.1, x17.2) h ⟨rfl, rfl, rfl, trivial⟩
      · intro x14 H15 h
        replace h := hR16 x14 H15 h
        refine GC.seq ?_
        refine GC.region ?_
        refine GL.val trivial rfl (OV.move (v := pv p_r) rfl) ?_
        refine GL.val trivial rfl (OV.move (v := slv x14.1) rfl) ?_
        refine GL.val trivial rfl (OV.move (v := slv x14.1) rfl) ?_
        refine GL.val trivial rfl (OV.lenSl (s := x14.1) rfl rfl) ?_
        refine GL.val trivial rfl (OV.move (v := slv x14.1) rfl) ?_
        refine GL.val trivial rfl (OV.lenSl (s := x14.1) rfl rfl) ?_
        obtain ⟨h60, h61, h62, h63, t59, h64, h⟩ := h
        refine GL.val trivial rfl (OV.sliceSl (s := x14.1) h60 h61 h62 h63 h64 rfl rfl rfl rfl rfl rfl rfl (fun h => by first | rfl | cases h) rfl rfl) ?_
        obtain ⟨p65, hp66, h⟩ := h
        refine GL.val trivial rfl (OV.nilCheck (q := p_r) rfl hp66) ?_
        refine GL.val trivial rfl (OV.fieldAddr (p := p65) rfl rfl) ?_
        refine GL.store (p := (p65.1, p65.2 + 0)) (v := slv t59) h trivial rfl rfl rfl rfl ?_
        intro H67 h
        refine GL.nil ?_
        refine GC.seq ?_
        refine GC.region ?_
        refine GL.val trivial rfl (OV.move (v := slv x14.2) rfl) ?_
        refine GL.val trivial rfl (OV.assign (v := slv x14.2) rfl) ?_
        refine GL.val trivial rfl (OV.assign (v := .int .i64 0) rfl) ?_
        refine GL.nil ?_
        exact GC.ret (fun _ _ hf hs => post_tmp2 rfl rfl rfl hf hs ⟨x14.2, 0, rfl, h⟩)

def sh_ref30_Reader_Feed (C : Ctx) (p_r : Option (Nat × Nat)) (p_chunk : Sl) (K : Sl → Int → Heap → Prop) (H : Heap) : Prop :=
  nck p_r fun p1 =>
 ldI H .i64 (p1.1, p1.2 + 2) fun x3 =>
 ift ((x3 : Int) != 0)
 (K Sl.nil 50 H)
 (dr H fun Hs6 =>
 nck p_r fun p8 =>
 ldS Hs6 (p8.1, p8.2 + 0) fun x10 =>
 b2s p_chunk (fun t12 =>
 catOk x10 t12 ∧
 nck p_r fun p16 =>
 st (p16.1, p16.2 + 0) (sv (x10 ++ t12)) (fun H18 =>
 nck p_r fun p19 =>
 ldS H18 (p19.1, p19.2 + 0) fun x21 =>
 c_ref30_Cut C x21 (fun r23 r24 r25 H26 =>
 nck p_r fun p27 =>
 ldI H26 .i64 (p27.1, p27.2 + 1) fun x29 =>
 slL r23 x29 (Sl.len r23 : Int) (Sl.cap r23 : Int) 1 fun t31 =>
 nck p_r fun p37 =>
 st (p37.1, p37.2 + 1) (.int .i64 (Sl.len r23 : Int)) (fun H39 =>
 nck p_r fun p40 =>
 st (p40.1, p40.2 + 2) (.int .i64 r25) (fun H42 =>
 K t31 r25 H42) H39) H26) H18) H) Hs6)

theorem ad_ref30_Reader_Feed (C : Ctx) (p_r : Option (Nat × Nat)) (p_chunk : Sl) (K : Sl → Int → Heap → Prop) (H : Heap) (h : sh_ref30_Reader_Feed C p_r p_chunk K H) : c_ref30_Reader_Feed C p_r p_chunk K H := by
  refine Spec.enter Try.func16 rfl Try.ntmps16 rfl ?_
  refine GC.sub [(0, pv p_r), (1, slv p_chunk)] ⟨rfl, rfl, trivial⟩ ?_
  refine GC.seq ?_
  refine GC.region ?_
  refine GL.val trivial rfl (OV.assign (v := slv Sl.nil) rfl) ?_
  refine GL.val trivial rfl (OV.assign (v := .int .i64 0) rfl) ?_
  refine GL.nil ?_
  refine GC.seq ?_
  refine GC.seq ?_
  refine GC.region ?_
  refine GL.val trivial rfl (OV.move (v := pv p_r) rfl) ?_
  obtain ⟨p1, hp2, h⟩ := h
  refine GL.val trivial rfl (OV.nilCheck (q := p_r) rfl hp2) ?_
  refine GL.val trivial rfl (OV.fieldAddr (p := p1) rfl rfl) ?_
  obtain ⟨x3, hr4, h⟩ := h
  refine GL.val trivial rfl (OV.load (p := (p1.1, p1.2 + 2)) rfl rfl hr4) ?_
  refine GL.val trivial rfl (OV.ibin (v := .bool ((x3 : Int) != 0)) rfl rfl rfl) ?_
  refine GL.nil ?_
  refine GC.cond (b := (x3 : Int) != 0) rfl (fun hc5 => ?_) (fun hc5 => ?_)
  · replace h := And.left h hc5
    refine GC.seq ?_
    refine GC.region ?_
    refine GL.val trivial rfl (OV.assign (v := slv Sl.nil) rfl) ?_
    refine GL.val trivial rfl (OV.assign (v := .int .i64 50) rfl) ?_
    refine GL.nil ?_
    exact GC.ret (fun _ _ hf hs => post_tmp2 rfl rfl rfl hf hs ⟨Sl.nil, 50, rfl, h⟩)
  · replace h := And.right h hc5
    refine GC.skip ?_
    refine GC.seq ?_
    obtain ⟨Hs6, hle7, h⟩ := h
    refine GC.tail (Hs := Hs6) 10 (by kernel_rfl) hle7 (by kernel_rfl) ?_
    refine GT.take 0 rfl (by kernel_rfl) (by kernel_rfl) (by kernel_rfl) rfl (fun _ _ _ h => by obtain ⟨_, _, _, h, _⟩ := h; cases h) trivial rfl (OV.move (v := pv p_r) rfl) ?_
    refine GT.take 1 rfl (by kernel_rfl) (by kernel_rfl) (by kernel_rfl) rfl (fun _ _ _ h => by obtain ⟨_, _, _, h, _⟩ := h; cases h) trivial rfl (OV.move (v := pv p_r) rfl) ?_
    obtain ⟨p8, hp9, h⟩ := h
    refine GT.take 2 rfl (by kernel_rfl) (by kernel_rfl) (by kernel_rfl) rfl (fun _ _ _ h => by obtain ⟨_, _, _, h, _⟩ := h; cases h) trivial rfl (OV.nilCheck (q := p_r) rfl hp9) ?_
    refine GT.take 3 rfl (by kernel_rfl) (by kernel_rfl) (by kernel_rfl) rfl (fun _ _ _ h => by obtain ⟨_, _, _, h, _⟩ := h; cases h) trivial rfl (OV.fieldAddr (p := p8) rfl rfl) ?_
    obtain ⟨x10, hr11, h⟩ := h
    refine GT.take 4 rfl (by kernel_rfl) (by kernel_rfl) (by kernel_rfl) rfl (fun _ _ _ h => by obtain ⟨_, _, _, h, _⟩ := h; cases h) trivial rfl (OV.load (p := (p8.1, p8.2 + 0)) rfl rfl hr11) ?_
    refine GT.take 5 rfl (by kernel_rfl) (by kernel_rfl) (by kernel_rfl) rfl (fun _ _ _ h => by obtain ⟨_, _, _, h, _⟩ := h; cases h) trivial rfl (OV.move (v := slv p_chunk) rfl) ?_
    obtain ⟨t12, h13, h14, h⟩ := h
    refine GT.take 6 rfl (by kernel_rfl) (by kernel_rfl) (by kernel_rfl) rfl (fun _ _ _ h => by obtain ⟨_, _, _, h, _⟩ := h; cases h) trivial rfl (OV.b2s (b := p_chunk) (s := t12) h13 h14 rfl rfl rfl rfl) ?_
    obtain ⟨hl15, h⟩ := h
    refine GT.take 7 rfl (by kernel_rfl) (by kernel_rfl) (by kernel_rfl) rfl (fun _ _ _ h => by obtain ⟨_, _, _, h, _⟩ := h; cases h) trivial rfl (OV.cat (a := x10) (b := t12) rfl rfl hl15) ?_
    obtain ⟨p16, hp17, h⟩ := h
    refine GT.take 8 rfl (by kernel_rfl) (by kernel_rfl) (by kernel_rfl) rfl (fun _ _ _ h => by obtain ⟨_, _, _, h, _⟩ := h; cases h) trivial rfl (OV.nilCheck (q := p_r) rfl hp17) ?_
    refine GT.take 9 rfl (by kernel_rfl) (by kernel_rfl) (by kernel_rfl) rfl (fun _ _ _ h => by obtain ⟨_, _, _, h, _⟩ := h; cases h) trivial rfl (OV.fieldAddr (p := p16) rfl rfl) ?_
    refine GT.done (by kernel_rfl) ?_
    show GL _ _ _ _ _ [_] _ _
    refine GL.store (p := (p16.1, p16.2 + 0)) (v := sv (x10 ++ t12)) h trivial rfl rfl rfl rfl ?_
    intro H18 h
    refine GL.nil ?_
    refine GC.seq ?_
    refine GC.region ?_
    refine GL.val trivial rfl (OV.move (v := pv p_r) rfl) ?_
    obtain ⟨p19, hp20, h⟩ := h
    refine GL.val trivial rfl (OV.nilCheck (q := p_r) rfl hp20) ?_
    refine GL.val trivial rfl (OV.fieldAddr (p := p19) rfl rfl) ?_
    obtain ⟨x21, hr22, h⟩ := h
    refine GL.val trivial rfl (OV.load (p := (p19.1, p19.2 + 0)) rfl rfl hr22) ?_
    refine GL.call h trivial rfl ok_ref30_Cut (vs := [sv x21]) rfl ?_
    rintro _ H26 ⟨r23, r24, r25, rfl, h⟩
    refine GL.val trivial rfl (OV.move (v := .tuple #[slv r23, .int .i64 r24, .int .i64 r25]) rfl) ?_
    refine GL.val trivial rfl (OV.extract (v := slv r23) rfl rfl) ?_
    refine GL.val trivial rfl (OV.extract (v := .int .i64 r24) rfl rfl) ?_
    refine GL.val trivial rfl (OV.extract (v := .int .i64 r25) rfl rfl) ?_
    refine GL.val trivial rfl (OV.assign (v := slv r23) rfl) ?_
    refine GL.val trivial rfl (OV.assign (v := .int .i64 r24) rfl) ?_
    refine GL.val trivial rfl (OV.assign (v := .int .i64 r25) rfl) ?_
    refine GL.nil ?_
    refine GC.seq ?_
    refine GC.region ?_
    refine GL.val trivial rfl (OV.move (v := slv r23) rfl) ?_
    refine GL.val trivial rfl (OV.move (v := pv p_r) rfl) ?_
    obtain ⟨p27, hp28, h⟩ := h
    refine GL.val trivial rfl (OV.nilCheck (q := p_r) rfl hp28) ?_
    refine GL.val trivial rfl (OV.fieldAddr (p := p27) rfl rfl) ?_
    obtain ⟨x29, hr30, h⟩ := h
    refine GL.val trivial rfl (OV.load (p := (p27.1, p27.2 + 1)) rfl rfl hr30) ?_
    obtain ⟨h32, h33, h34, h35, t31, h36, h⟩ := h
    refine GL.val trivial rfl (OV.sliceSl (s := r23) h32 h33 h34 h35 h36 rfl rfl rfl rfl rfl rfl rfl (fun h => by first | rfl | cases h) rfl rfl) ?_
    refine GL.val trivial rfl (OV.assign (v := slv t31) rfl) ?_
    refine GL.nil ?_
    refine GC.seq ?_
    refine GC.region ?_
    refine GL.val trivial rfl (OV.move (v := pv p_r) rfl) ?_
    refine GL.val trivial rfl (OV.move (v := slv r23) rfl) ?_
    refine GL.val trivial rfl (OV.lenSl (s := r23) rfl rfl) ?_
    obtain ⟨p37, hp38, h⟩ := h
    refine GL.val trivial rfl (OV.nilCheck (q := p_r) rfl hp38) ?_
    refine GL.val trivial rfl (OV.fieldAddr (p := p37) rfl rfl) ?_
    refine GL.store (p := (p37.1, p37.2 + 1)) (v := .int .i64 (Sl.len r23 : Int)) h trivial rfl rfl rfl rfl ?_
    intro H39 h
    refine GL.nil ?_
    refine GC.seq ?_
    refine GC.region ?_
    refine GL.val trivial rfl (OV.move (v := pv p_r) rfl) ?_
    refine GL.val trivial rfl (OV.move (v := .int .i64 r25) rfl) ?_
    obtain ⟨p40, hp41, h⟩ := h
    refine GL.val trivial rfl (OV.nilCheck (q := p_r) rfl hp41) ?_
    refine GL.val trivial rfl (OV.fieldAddr (p := p40) rfl rfl) ?_
    refine GL.store (p := (p40.1, p40.2 + 2)) (v := .int .i64 r25) h trivial rfl rfl rfl rfl ?_
    intro H42 h
    refine GL.nil ?_
    refine GC.seq ?_
    refine GC.region ?_
    refine GL.val trivial rfl (OV.move (v := slv t31) rfl) ?_
    refine GL.val trivial rfl (OV.move (v := .int .i64 r25) rfl) ?_
    refine GL.val trivial rfl (OV.assign (v := slv t31) rfl) ?_
    refine GL.val trivial rfl (OV.assign (v := .int .i64 r25) rfl) ?_
    refine GL.nil ?_
    exact GC.ret (fun _ _ hf hs => post_tmp2 rfl rfl rfl hf hs ⟨t31, r25, rfl, h⟩)

def sh_ref30_Same (C : Ctx) (p_a : Sl) (p_b : Sl) (K : Bool → Heap → Prop) (H : Heap) : Prop :=
  ift (((Sl.len p_a : Int) : Int) != (Sl.len p_b : Int))
 (K false H)
 (lp (α := Int) 0 H (fun x2 J3 H4 =>
 ift (decide ((x2 : Int) < (Sl.len p_a : Int)))
 (ixa p_a x2 fun p6 =>
 ldS H4 (p6.1, p6.2 + (x2 : Int).toNat * 1) fun x11 =>
 ixa p_b x2 fun p13 =>
 ldS H4 (p13.1, p13.2 + (x2 : Int).toNat * 1) fun x18 =>
 ift (!(x11 == x18))
 (K false H4)
 (J3 (w .i64 (x2 + 1)) H4))
 (K true H4)))

theorem ad_ref30_Same (C : Ctx) (p_a : Sl) (p_b : Sl) (K : Bool → Heap → Prop) (H : Heap) (h : sh_ref30_Same C p_a p_b K H) : c_ref30_Same C p_a p_b K H := by
  refine Spec.enter Try.func17 rfl Try.ntmps17 rfl ?_
  refine GC.sub [(0, slv p_a), (1, slv p_b)] ⟨rfl, rfl, trivial⟩ ?_
  refine GC.seq ?_
  refine GC.region ?_
  refine GL.val trivial rfl (OV.assign (v := .bool false) rfl) ?_
  refine GL.nil ?_
  refine GC.seq ?_
  refine GC.seq ?_
  refine GC.region ?_
  refine GL.val trivial rfl (OV.move (v := slv p_a) rfl) ?_
  refine GL.val trivial rfl (OV.lenSl (s := p_a) rfl rfl) ?_
  refine GL.val trivial rfl (OV.move (v := slv p_b) rfl) ?_
  refine GL.val trivial rfl (OV.lenSl (s := p_b) rfl rfl) ?_
  refine GL.val trivial rfl (OV.ibin (v := .bool (((Sl.len p_a : Int) : Int) != (Sl.len p_b : Int))) rfl rfl rfl) ?_
  refine GL.nil ?_
  refine GC.cond (b := ((Sl.len p_a : Int) : Int) != (Sl.len p_b : Int)) rfl (fun hc1 => ?_) (fun hc1 => ?_)
  · replace h := And.left h hc1
    refine GC.seq ?_
    refine GC.region ?_
    refine GL.val trivial rfl (OV.assign (v := .bool false) rfl) ?_
    refine GL.nil ?_
    exact GC.ret (fun _ _ hf hs => post_tmp1 rfl rfl hf hs ⟨false, rfl, h⟩)
  · replace h := And.right h hc1
    refine GC.skip ?_
    refine GC.seq ?_
    refine GC.seq ?_
    refine GC.region ?_
    refine GL.val trivial rfl (OV.assign (v := .int .i64 0) rfl) ?_
    refine GL.nil ?_
    refine GC.block ?_
    refine GC.loop (α := Int) h (fun x2 => [(5, .int .i64 x2), (0, slv p_a), (1, slv p_b)]) ⟨rfl, rfl, rfl, trivial⟩ ?_
    intro x2 H4 J3 h
    refine GC.seq ?_
    refine GC.seq ?_
    refine GC.region ?_
    refine GL.val trivial rfl (OV.move (v := .int .i64 x2) rfl) ?_
    refine GL.val trivial rfl (OV.move (v := slv p_a) rfl) ?_
    refine GL.val trivial rfl (OV.lenSl (s := p_a) rfl rfl) ?_
    refine GL.val trivial rfl (OV.ibin (v := .bool (decide ((x2 : Int) < (Sl.len p_a : Int)))) rfl rfl rfl) ?_
    refine GL.nil ?_
    refine GC.cond (b := decide ((x2 : Int) < (Sl.len p_a : Int))) rfl (fun hc5 => ?_) (fun hc5 => ?_)
    · replace h := And.left h hc5
      refine GC.skip ?_
      refine GC.seq ?_
      refine GC.block ?_
      refine GC.seq ?_
      refine GC.draw (by kernel_rfl) (by kernel_rfl) ?_
      refine GQ.val trivial rfl (OV.move (v := slv p_a) rfl) ?_
      refine GQ.val trivial rfl (OV.move (v := .int .i64 x2) rfl) ?_
      obtain ⟨p6, ha7, hb8, hc9, hd10, h⟩ := h
      refine GQ.val trivial rfl (OV.indexAddr (s := p_a) rfl rfl rfl rfl ha7 hb8 hc9 hd10) ?_
      obtain ⟨x11, hr12, h⟩ := h
      refine GQ.val trivial rfl (OV.load (p := (p6.1, p6.2 + (x2 : Int).toNat * 1)) rfl rfl hr12) ?_
      refine GQ.val trivial rfl (OV.move (v := slv p_b) rfl) ?_
      refine GQ.val trivial rfl (OV.move (v := .int .i64 x2) rfl) ?_
      obtain ⟨p13, ha14, hb15, hc16, hd17, h⟩ := h
      refine GQ.val trivial rfl (OV.indexAddr (s := p_b) rfl rfl rfl rfl ha14 hb15 hc16 hd17) ?_
      obtain ⟨x18, hr19, h⟩ := h
      refine GQ.val trivial rfl (OV.load (p := (p13.1, p13.2 + (x2 : Int).toNat * 1)) rfl rfl hr19) ?_
      refine GQ.val trivial rfl (OV.sbin (a := x11) (b := x18) (v := .bool (!(x11 == x18))) rfl rfl rfl) ?_
      refine GQ.nil ?_
      refine GL.nil ?_
      refine GC.cond (b := !(x11 == x18)) rfl (fun hc20 => ?_) (fun hc20 => ?_)
      · replace h := And.left h hc20
        refine GC.seq ?_
        refine GC.region ?_
        refine GL.val trivial rfl (OV.assign (v := .bool false) rfl) ?_
        refine GL.nil ?_
        exact GC.ret (fun _ _ hf hs => post_tmp1 rfl rfl hf hs ⟨false, rfl, h⟩)
      · replace h := And.right h hc20
        refine GC.skip_to (fun _ _ h => h) ?_
        refine GC.region ?_
        refine GL.val trivial rfl (OV.move (v := .int .i64 x2) rfl) ?_
        refine GL.val trivial rfl (OV.ibin (v := .int .i64 (w .i64 (x2 + 1))) rfl rfl rfl) ?_
        refine GL.val trivial rfl (OV.assign (v := .int .i64 (w .i64 (x2 + 1))) rfl) ?_
        exact GL.jump (fun _ _ h => h) (w .i64 (x2 + 1)) h ⟨rfl, rfl, rfl, trivial⟩
    · replace h := And.right h hc5
      refine GC.exit_to (fun _ _ h => h) ?_
      refine GC.seq ?_
      refine GC.region ?_
      refine GL.val trivial rfl (OV.assign (v := .bool true) rfl) ?_
      refine GL.nil ?_
      exact GC.ret (fun _ _ hf hs => post_tmp1 rfl rfl hf hs ⟨true, rfl, h⟩)

def sh_frame_Reader_Held (C : Ctx) (p_r : Option (Nat × Nat)) (K : Int → Heap → Prop) (H : Heap) : Prop :=
  ift (Option.isNone p_r)
 (K 0 H)
 (nck p_r fun p2 =>
 ldL H (p2.1, p2.2 + 0) fun x4 =>
 K (Sl.len x4 : Int) H)

theorem ad_frame_Reader_Held (C : Ctx) (p_r : Option (Nat × Nat)) (K : Int → Heap → Prop) (H : Heap) (h : sh_frame_Reader_Held C p_r K H) : c_frame_Reader_Held C p_r K H := by
  refine Spec.enter Try.func18 rfl Try.ntmps18 rfl ?_
  refine GC.sub [(0, pv p_r)] ⟨rfl, trivial⟩ ?_
  refine GC.seq ?_
  refine GC.region ?_
  refine GL.val trivial rfl (OV.assign (v := .int .i64 0) rfl) ?_
  refine GL.nil ?_
  refine GC.seq ?_
  refine GC.seq ?_
  refine GC.region ?_
  refine GL.val trivial rfl (OV.move (v := pv p_r) rfl) ?_
  refine GL.val trivial rfl (OV.eqlNil (p := p_r) rfl rfl rfl) ?_
  refine GL.nil ?_
  refine GC.cond (b := Option.isNone p_r) rfl (fun hc1 => ?_) (fun hc1 => ?_)
  · replace h := And.left h hc1
    refine GC.seq ?_
    refine GC.region ?_
    refine GL.val trivial rfl (OV.assign (v := .int .i64 0) rfl) ?_
    refine GL.nil ?_
    exact GC.ret (fun _ _ hf hs => post_tmp1 rfl rfl hf hs ⟨0, rfl, h⟩)
  · replace h := And.right h hc1
    refine GC.skip ?_
    refine GC.seq ?_
    refine GC.region ?_
    refine GL.val trivial rfl (OV.move (v := pv p_r) rfl) ?_
    obtain ⟨p2, hp3, h⟩ := h
    refine GL.val trivial rfl (OV.nilCheck (q := p_r) rfl hp3) ?_
    refine GL.val trivial rfl (OV.fieldAddr (p := p2) rfl rfl) ?_
    obtain ⟨x4, hr5, h⟩ := h
    refine GL.val trivial rfl (OV.load (p := (p2.1, p2.2 + 0)) rfl rfl hr5) ?_
    refine GL.val trivial rfl (OV.lenSl (s := x4) rfl rfl) ?_
    refine GL.val trivial rfl (OV.assign (v := .int .i64 (Sl.len x4 : Int)) rfl) ?_
    refine GL.nil ?_
    exact GC.ret (fun _ _ hf hs => post_tmp1 rfl rfl hf hs ⟨(Sl.len x4 : Int), rfl, h⟩)

def sh_ref30_Reader_Held (C : Ctx) (p_r : Option (Nat × Nat)) (K : Int → Heap → Prop) (H : Heap) : Prop :=
  nck p_r fun p1 =>
 ldS H (p1.1, p1.2 + 0) fun x3 =>
 c_ref30_Cut C x3 (fun r5 r6 r7 H8 =>
 K r6 H8) H

theorem ad_ref30_Reader_Held (C : Ctx) (p_r : Option (Nat × Nat)) (K : Int → Heap → Prop) (H : Heap) (h : sh_ref30_Reader_Held C p_r K H) : c_ref30_Reader_Held C p_r K H := by
  refine Spec.enter Try.func19 rfl Try.ntmps19 rfl ?_
  refine GC.sub [(0, pv p_r)] ⟨rfl, trivial⟩ ?_
  refine GC.seq ?_
  refine GC.region ?_
  refine GL.val trivial rfl (OV.assign (v := .int .i64 0) rfl) ?_
  refine GL.nil ?_
  refine GC.seq ?_
  refine GC.region ?_
  refine GL.val trivial rfl (OV.move (v := pv p_r) rfl) ?_
  obtain ⟨p1, hp2, h⟩ := h
  refine GL.val trivial rfl (OV.nilCheck (q := p_r) rfl hp2) ?_
  refine GL.val trivial rfl (OV.fieldAddr (p := p1) rfl rfl) ?_
  obtain ⟨x3, hr4, h⟩ := h
  refine GL.val trivial rfl (OV.load (p := (p1.1, p1.2 + 0)) rfl rfl hr4) ?_
  refine GL.call h trivial rfl ok_ref30_Cut (vs := [sv x3]) rfl ?_
  rintro _ H8 ⟨r5, r6, r7, rfl, h⟩
  refine GL.val trivial rfl (OV.move (v := .tuple #[slv r5, .int .i64 r6, .int .i64 r7]) rfl) ?_
  refine GL.val trivial rfl (OV.extract (v := slv r5) rfl rfl) ?_
  refine GL.val trivial rfl (OV.extract (v := .int .i64 r6) rfl rfl) ?_
  refine GL.val trivial rfl (OV.extract (v := .int .i64 r7) rfl rfl) ?_
  refine GL.val trivial rfl (OV.assign (v := slv r5) rfl) ?_
  refine GL.val trivial rfl (OV.assign (v := .int .i64 r6) rfl) ?_
  refine GL.val trivial rfl (OV.assign (v := .int .i64 r7) rfl) ?_
  refine GL.nil ?_
  refine GC.seq ?_
  refine GC.region ?_
  refine GL.val trivial rfl (OV.move (v := .int .i64 r6) rfl) ?_
  refine GL.val trivial rfl (OV.assign (v := .int .i64 r6) rfl) ?_
  refine GL.nil ?_
  exact GC.ret (fun _ _ hf hs => post_tmp1 rfl rfl hf hs ⟨r6, rfl, h⟩)

def sh_frame_Reader_Shut (C : Ctx) (p_r : Option (Nat × Nat)) (K : Bool → Heap → Prop) (H : Heap) : Prop :=
  jn (α := Bool) (fun b1 H9 =>
 K b1 H9)
 (fun J2 => ift (!(Option.isNone p_r))
 (nck p_r fun p5 =>
 ldB H (p5.1, p5.2 + 1) fun x7 =>
 J2 x7 H)
 (J2 false H))

theorem ad_frame_Reader_Shut (C : Ctx) (p_r : Option (Nat × Nat)) (K : Bool → Heap → Prop) (H : Heap) (h : sh_frame_Reader_Shut C p_r K H) : c_frame_Reader_Shut C p_r K H := by
  refine Spec.enter Try.func20 rfl Try.ntmps20 rfl ?_
  refine GC.sub [(0, pv p_r)] ⟨rfl, trivial⟩ ?_
  refine GC.seq ?_
  refine GC.region ?_
  refine GL.val trivial rfl (OV.assign (v := .bool false) rfl) ?_
  refine GL.nil ?_
  refine GC.seq ?_
  refine GC.region ?_
  refine GL.val trivial rfl (OV.move (v := pv p_r) rfl) ?_
  refine GL.val trivial rfl (OV.neqNil (p := p_r) rfl rfl rfl) ?_
  refine GL.val trivial rfl (OV.move (v := .bool (!(Option.isNone p_r))) rfl) ?_
  obtain ⟨J2, h, hR3⟩ := h
  refine GL.cut (α := Bool) 5 J2 (fun b1 => [(10, .bool b1)]) ?_ ?_
  · rcases Bool.eq_false_or_eq_true (!(Option.isNone p_r)) with hc4 | hc4
    · skip
      replace h := And.left h hc4
      refine GL.val ⟨_, _, rfl, rfl, hc4⟩ rfl (OV.move (v := pv p_r) rfl) ?_
      obtain ⟨p5, hp6, h⟩ := h
      refine GL.val ⟨_, _, rfl, rfl, hc4⟩ rfl (OV.nilCheck (q := p_r) rfl hp6) ?_
      refine GL.val ⟨_, _, rfl, rfl, hc4⟩ rfl (OV.fieldAddr (p := p5) rfl rfl) ?_
      obtain ⟨x7, hr8, h⟩ := h
      refine GL.val ⟨_, _, rfl, rfl, hc4⟩ rfl (OV.load (p := (p5.1, p5.2 + 1)) rfl rfl hr8) ?_
      refine GL.val trivial rfl (OV.pickT (b := !(Option.isNone p_r)) (v := .bool x7) rfl hc4 rfl) ?_
      exact GL.jump (fun _ _ h => h) x7 h ⟨rfl, trivial⟩
    · skip
      replace h := And.right h hc4
      refine GL.skip ⟨_, rfl, .inl ⟨_, rfl, hc4⟩⟩ rfl ?_
      refine GL.skip ⟨_, rfl, .inl ⟨_, rfl, hc4⟩⟩ rfl ?_
      refine GL.skip ⟨_, rfl, .inl ⟨_, rfl, hc4⟩⟩ rfl ?_
      refine GL.skip ⟨_, rfl, .inl ⟨_, rfl, hc4⟩⟩ rfl ?_
      refine GL.val trivial rfl (OV.pickF (b := !(Option.isNone p_r)) (v := .bool false) rfl hc4 rfl) ?_
      exact GL.jump (fun _ _ h => h) false h ⟨rfl, trivial⟩
  intro b1 H9 h
  replace h := hR3 b1 H9 h
  refine GL.val trivial rfl (OV.assign (v := .bool b1) rfl) ?_
  refine GL.nil ?_
  exact GC.ret (fun _ _ hf hs => post_tmp1 rfl rfl hf hs ⟨b1, rfl, h⟩)

def sh_law30_fed (C : Ctx) (p_l : Sl) (K : Sl → Int → Int → Heap → Prop) (H : Heap) : Prop :=
  c_frame_New C (fun r1 H2 =>
 lp (α := Sl × Int × Int) (Sl.nil, 0, 0) H2 (fun x3 J4 H5 =>
 ift (decide ((x3.2.2 : Int) < (Sl.len p_l : Int)))
 (jn (α := Sl × Int) (fun x8 H9 =>
 J4 (x8.1, x8.2, (w .i64 (x3.2.2 + 1))) H9)
 (fun J7 => ixa p_l x3.2.2 fun p11 =>
 ldL H5 (p11.1, p11.2 + (x3.2.2 : Int).toNat * 1) fun x16 =>
 c_frame_Reader_Feed C r1 x16 (fun r18 r19 H20 =>
 apS ([sv []]) 16 x3.1 r18 (fun r21 H22 =>
 ift (((r19 : Int) != 0) && ((x3.2.1 : Int) == 0))
 (J7 (r21, r19) H22)
 (J7 (r21, x3.2.1) H22)) H20) H5))
 (c_frame_Reader_Held C r1 (fun r25 H26 =>
 K x3.1 x3.2.1 r25 H26) H5))) H

theorem ad_law30_fed (C : Ctx) (p_l : Sl) (K : Sl → Int → Int → Heap → Prop) (H : Heap) (h : sh_law30_fed C p_l K H) : c_law30_fed C p_l K H := by
  refine Spec.enter Try.func21 rfl Try.ntmps21 rfl ?_
  refine GC.sub [(0, slv p_l)] ⟨rfl, trivial⟩ ?_
  refine GC.seq ?_
  refine GC.region ?_
  refine GL.val trivial rfl (OV.assign (v := slv Sl.nil) rfl) ?_
  refine GL.val trivial rfl (OV.assign (v := .int .i64 0) rfl) ?_
  refine GL.val trivial rfl (OV.assign (v := .int .i64 0) rfl) ?_
  refine GL.nil ?_
  refine GC.seq ?_
  refine GC.region ?_
  refine GL.call h trivial rfl ok_frame_New (vs := []) rfl ?_
  rintro _ H2 ⟨r1, rfl, h⟩
  refine GL.val trivial rfl (OV.assign (v := pv r1) rfl) ?_
  refine GL.nil ?_
  refine GC.seq ?_
  refine GC.region ?_
  refine GL.val trivial rfl (OV.assign (v := slv Sl.nil) rfl) ?_
  refine GL.nil ?_
  refine GC.seq ?_
  refine GC.region ?_
  refine GL.val trivial rfl (OV.assign (v := .int .i64 0) rfl) ?_
  refine GL.nil ?_
  refine GC.seq ?_
  refine GC.seq ?_
  refine GC.region ?_
  refine GL.val trivial rfl (OV.assign (v := .int .i64 0) rfl) ?_
  refine GL.nil ?_
  refine GC.block ?_
  refine GC.loop (α := Sl × Int × Int) h (fun x3 => [(6, slv x3.1), (7, .int .i64 x3.2.1), (8, .int .i64 x3.2.2), (0, slv p_l), (5, pv r1)]) ⟨rfl, rfl, rfl, rfl, rfl, trivial⟩ ?_
  intro x3 H5 J4 h
  refine GC.seq ?_
  refine GC.seq ?_
  refine GC.region ?_
  refine GL.val trivial rfl (OV.move (v := .int .i64 x3.2.2) rfl) ?_
  refine GL.val trivial rfl (OV.move (v := slv p_l) rfl) ?_
  refine GL.val trivial rfl (OV.lenSl (s := p_l) rfl rfl) ?_
  refine GL.val trivial rfl (OV.ibin (v := .bool (decide ((x3.2.2 : Int) < (Sl.len p_l : Int)))) rfl rfl rfl) ?_
  refine GL.nil ?_
  refine GC.cond (b := decide ((x3.2.2 : Int) < (Sl.len p_l : Int))) rfl (fun hc6 => ?_) (fun hc6 => ?_)
  · replace h := And.left h hc6
    refine GC.skip ?_
    obtain ⟨J7, h, hR10⟩ := h
    refine GC.join (α := Sl × Int) J7 (fun x8 => [(6, slv x8.1), (7, .int .i64 x8.2), (0, slv p_l), (5, pv r1), (8, .int .i64 x3.2.2)]) ?_ ?_
    · skip
      refine GC.block ?_
      refine GC.seq ?_
      refine GC.region ?_
      refine GL.val trivial rfl (OV.move (v := pv r1) rfl) ?_
      refine GL.val trivial rfl (OV.move (v := slv p_l) rfl) ?_
      refine GL.val trivial rfl (OV.move (v := .int .i64 x3.2.2) rfl) ?_
      obtain ⟨p11, ha12, hb13, hc14, hd15, h⟩ := h
      refine GL.val trivial rfl (OV.indexAddr (s := p_l) rfl rfl rfl rfl ha12 hb13 hc14 hd15) ?_
      obtain ⟨x16, hr17, h⟩ := h
      refine GL.val trivial rfl (OV.load (p := (p11.1, p11.2 + (x3.2.2 : Int).toNat * 1)) rfl rfl hr17) ?_
      refine GL.call h trivial rfl ok_frame_Reader_Feed (vs := [pv r1, slv x16]) rfl ?_
      rintro _ H20 ⟨r18, r19, rfl, h⟩
      refine GL.val trivial rfl (OV.move (v := .tuple #[slv r18, .int .i64 r19]) rfl) ?_
      refine GL.val trivial rfl (OV.extract (v := slv r18) rfl rfl) ?_
      refine GL.val trivial rfl (OV.extract (v := .int .i64 r19) rfl rfl) ?_
      refine GL.val trivial rfl (OV.assign (v := slv r18) rfl) ?_
      refine GL.val trivial rfl (OV.assign (v := .int .i64 r19) rfl) ?_
      refine GL.nil ?_
      refine GC.seq ?_
      refine GC.region ?_
      refine GL.val trivial rfl (OV.move (v := slv x3.1) rfl) ?_
      refine GL.val trivial rfl (OV.move (v := slv r18) rfl) ?_
      refine GL.appendS (s := x3.1) (s2 := r18) (zc := [sv []]) (bytes := 16) h trivial rfl rfl rfl ⟨⟨_, _, _, rfl, rfl, rfl, rfl, rfl, rfl⟩⟩ rfl ?_
      intro r21 H22 h
      refine GL.val trivial rfl (OV.assign (v := slv r21) rfl) ?_
      refine GL.nil ?_
      refine GC.seq ?_
      refine GC.region ?_
      refine GL.val trivial rfl (OV.move (v := .int .i64 r19) rfl) ?_
      refine GL.val trivial rfl (OV.ibin (v := .bool ((r19 : Int) != 0)) rfl rfl rfl) ?_
      refine GL.val trivial rfl (OV.move (v := .bool ((r19 : Int) != 0)) rfl) ?_
      refine GL.cut0 3 [(35, .bool (((r19 : Int) != 0) && ((x3.2.1 : Int) == 0))), (0, slv p_l), (5, pv r1), (6, slv r21), (7, .int .i64 x3.2.1), (8, .int .i64 x3.2.2), (10, .int .i64 r19)] ?_ ?_
      · rcases Bool.eq_false_or_eq_true ((r19 : Int) != 0) with hc23 | hc23
        · skip
          refine GL.val ⟨_, _, rfl, rfl, hc23⟩ rfl (OV.move (v := .int .i64 x3.2.1) rfl) ?_
          refine GL.val ⟨_, _, rfl, rfl, hc23⟩ rfl (OV.ibin (v := .bool ((x3.2.1 : Int) == 0)) rfl rfl rfl) ?_
          refine GL.val trivial rfl (OV.pickT (b := (r19 : Int) != 0) (v := .bool ((x3.2.1 : Int) == 0)) rfl hc23 rfl) ?_
          exact GL.jump0 (fun _ _ h => h) () rfl ⟨(by rw [hc23]; rfl), rfl, rfl, rfl, rfl, rfl, rfl, trivial⟩
        · skip
          refine GL.skip ⟨_, rfl, .inl ⟨_, rfl, hc23⟩⟩ rfl ?_
          refine GL.skip ⟨_, rfl, .inl ⟨_, rfl, hc23⟩⟩ rfl ?_
          refine GL.val trivial rfl (OV.pickF (b := (r19 : Int) != 0) (v := .bool false) rfl hc23 rfl) ?_
          exact GL.jump0 (fun _ _ h => h) () rfl ⟨(by rw [hc23]; rfl), rfl, rfl, rfl, rfl, rfl, rfl, trivial⟩
      refine GL.nil ?_
      refine GC.cond (b := ((r19 : Int) != 0) && ((x3.2.1 : Int) == 0)) rfl (fun hc24 => ?_) (fun hc24 => ?_)
      · replace h := And.left h hc24
        refine GC.region ?_
        refine GL.val trivial rfl (OV.move (v := .int .i64 r19) rfl) ?_
        refine GL.val trivial rfl (OV.assign (v := .int .i64 r19) rfl) ?_
        exact GL.jump (fun _ _ h => h) (r21, r19) h ⟨rfl, rfl, rfl, rfl, rfl, trivial⟩
      · replace h := And.right h hc24
        exact GC.jump (fun _ _ h => h) (r21, x3.2.1) h ⟨rfl, rfl, rfl, rfl, rfl, trivial⟩
    · intro x8 H9 h
      replace h := hR10 x8 H9 h
      refine GC.region ?_
      refine GL.val trivial rfl (OV.move (v := .int .i64 x3.2.2) rfl) ?_
      refine GL.val trivial rfl (OV.ibin (v := .int .i64 (w .i64 (x3.2.2 + 1))) rfl rfl rfl) ?_
      refine GL.val trivial rfl (OV.assign (v := .int .i64 (w .i64 (x3.2.2 + 1))) rfl) ?_
      exact GL.jump (fun _ _ h => h) (x8.1, x8.2, (w .i64 (x3.2.2 + 1))) h ⟨rfl, rfl, rfl, rfl, rfl, trivial⟩
  · replace h := And.right h hc6
    refine GC.exit_to (fun _ _ h => h) ?_
    refine GC.seq ?_
    refine GC.region ?_
    refine GL.val trivial rfl (OV.move (v := slv x3.1) rfl) ?_
    refine GL.val trivial rfl (OV.move (v := .int .i64 x3.2.1) rfl) ?_
    refine GL.val trivial rfl (OV.move (v := pv r1) rfl) ?_
    refine GL.call h trivial rfl ok_frame_Reader_Held (vs := [pv r1]) rfl ?_
    rintro _ H26 ⟨r25, rfl, h⟩
    refine GL.val trivial rfl (OV.assign (v := slv x3.1) rfl) ?_
    refine GL.val trivial rfl (OV.assign (v := .int .i64 x3.2.1) rfl) ?_
    refine GL.val trivial rfl (OV.assign (v := .int .i64 r25) rfl) ?_
    refine GL.nil ?_
    exact GC.ret (fun _ _ hf hs => post_tmp3 rfl rfl rfl rfl hf hs ⟨x3.1, x3.2.1, r25, rfl, h⟩)

def sh_frame_put (C : Ctx) (p_b : Sl) (p_n : Int) (K : Sl → Heap → Prop) (H : Heap) : Prop :=
  apd ([.int .u8 0]) 1 p_b ([.int .u8 (w .u8 (sShr .u32 p_n 24)), .int .u8 (w .u8 (sShr .u32 p_n 16)), .int .u8 (w .u8 (sShr .u32 p_n 8)), .int .u8 (w .u8 p_n)]) 4 (fun r1 H2 =>
 K r1 H2) H

theorem ad_frame_put (C : Ctx) (p_b : Sl) (p_n : Int) (K : Sl → Heap → Prop) (H : Heap) (h : sh_frame_put C p_b p_n K H) : c_frame_put C p_b p_n K H := by
  refine Spec.enter Try.func22 rfl Try.ntmps22 rfl ?_
  refine GC.sub [(0, slv p_b), (1, .int .u32 p_n)] ⟨rfl, rfl, trivial⟩ ?_
  refine GC.seq ?_
  refine GC.region ?_
  refine GL.val trivial rfl (OV.assign (v := slv Sl.nil) rfl) ?_
  refine GL.nil ?_
  refine GC.seq ?_
  refine GC.region ?_
  refine GL.val trivial rfl (OV.move (v := slv p_b) rfl) ?_
  refine GL.val trivial rfl (OV.move (v := .int .u32 p_n) rfl) ?_
  refine GL.val trivial rfl (OV.shr rfl rfl (by decide)) ?_
  refine GL.val trivial rfl (OV.convInt rfl rfl rfl) ?_
  refine GL.val trivial rfl (OV.move (v := .int .u32 p_n) rfl) ?_
  refine GL.val trivial rfl (OV.shr rfl rfl (by decide)) ?_
  refine GL.val trivial rfl (OV.convInt rfl rfl rfl) ?_
  refine GL.val trivial rfl (OV.move (v := .int .u32 p_n) rfl) ?_
  refine GL.val trivial rfl (OV.shr rfl rfl (by decide)) ?_
  refine GL.val trivial rfl (OV.convInt rfl rfl rfl) ?_
  refine GL.val trivial rfl (OV.move (v := .int .u32 p_n) rfl) ?_
  refine GL.val trivial rfl (OV.convInt rfl rfl rfl) ?_
  refine GL.appendLit (s := p_b) (ys := [.int .u8 (w .u8 (sShr .u32 p_n 24)), .int .u8 (w .u8 (sShr .u32 p_n 16)), .int .u8 (w .u8 (sShr .u32 p_n 8)), .int .u8 (w .u8 p_n)]) (zc := [.int .u8 0]) (bytes := 1) h trivial rfl (fun _ => trivial) rfl (fun _ => rfl) (fun _ => rfl) (vs := [(0, .int .u8 (w .u8 (sShr .u32 p_n 24))), (1, .int .u8 (w .u8 (sShr .u32 p_n 16))), (2, .int .u8 (w .u8 (sShr .u32 p_n 8))), (3, .int .u8 (w .u8 p_n))]) rfl ⟨5, fun _ => by kernel_rfl⟩ ⟨⟨_, _, _, rfl, rfl, rfl, rfl, rfl, rfl⟩⟩ rfl rfl ?_
  intro _ r1 H2 h
  refine GL.val trivial rfl (OV.assign (v := slv r1) rfl) ?_
  refine GL.nil ?_
  exact GC.ret (fun _ _ hf hs => post_tmp1 rfl rfl hf hs ⟨r1, rfl, h⟩)

def sh_ref30_four (C : Ctx) (p_n : Int) (K : Str → Heap → Prop) (H : Heap) : Prop :=
  nw ([.int .u8 (w .u8 (sShr .u32 p_n 24)), .int .u8 (w .u8 (sShr .u32 p_n 16)), .int .u8 (w .u8 (sShr .u32 p_n 8)), .int .u8 (w .u8 p_n)]) (fun b1 H2 =>
 b2s (Sl.of (some (b1, 0)) 4 4) (fun t3 =>
 K t3 H2) H2) H

theorem ad_ref30_four (C : Ctx) (p_n : Int) (K : Str → Heap → Prop) (H : Heap) (h : sh_ref30_four C p_n K H) : c_ref30_four C p_n K H := by
  refine Spec.enter Try.func23 rfl Try.ntmps23 rfl ?_
  refine GC.sub [(0, .int .u32 p_n)] ⟨rfl, trivial⟩ ?_
  refine GC.seq ?_
  refine GC.region ?_
  refine GL.val trivial rfl (OV.assign (v := sv []) rfl) ?_
  refine GL.nil ?_
  refine GC.seq ?_
  refine GC.region ?_
  refine GL.val trivial rfl (OV.move (v := .int .u32 p_n) rfl) ?_
  refine GL.val trivial rfl (OV.shr rfl rfl (by decide)) ?_
  refine GL.val trivial rfl (OV.convInt rfl rfl rfl) ?_
  refine GL.val trivial rfl (OV.move (v := .int .u32 p_n) rfl) ?_
  refine GL.val trivial rfl (OV.shr rfl rfl (by decide)) ?_
  refine GL.val trivial rfl (OV.convInt rfl rfl rfl) ?_
  refine GL.val trivial rfl (OV.move (v := .int .u32 p_n) rfl) ?_
  refine GL.val trivial rfl (OV.shr rfl rfl (by decide)) ?_
  refine GL.val trivial rfl (OV.convInt rfl rfl rfl) ?_
  refine GL.val trivial rfl (OV.move (v := .int .u32 p_n) rfl) ?_
  refine GL.val trivial rfl (OV.convInt rfl rfl rfl) ?_
  refine GL.buildSlice (cs := [.int .u8 (w .u8 (sShr .u32 p_n 24)), .int .u8 (w .u8 (sShr .u32 p_n 16)), .int .u8 (w .u8 (sShr .u32 p_n 8)), .int .u8 (w .u8 p_n)]) h trivial rfl (vs := [(0, .int .u8 (w .u8 (sShr .u32 p_n 24))), (1, .int .u8 (w .u8 (sShr .u32 p_n 16))), (2, .int .u8 (w .u8 (sShr .u32 p_n 8))), (3, .int .u8 (w .u8 p_n))]) rfl ⟨5, fun _ => by kernel_rfl⟩ ?_
  intro b1 H2 h
  obtain ⟨t3, h4, h5, h⟩ := h
  refine GL.val trivial rfl (OV.b2s (b := (Sl.of (some (b1, 0)) 4 4)) (s := t3) h4 h5 rfl rfl rfl rfl) ?_
  refine GL.val trivial rfl (OV.assign (v := sv t3) rfl) ?_
  refine GL.nil ?_
  exact GC.ret (fun _ _ hf hs => post_tmp1 rfl rfl hf hs ⟨t3, rfl, h⟩)

def sh_frame_Sum_1 (C : Ctx) (v0 : Nat × Nat) (K : Heap → Prop) (H : Heap) : Prop :=
  ldI H .u32 v0 fun x1 =>
 ldI H .u32 v0 fun x3 =>
 st v0 (.int .u32 (sShr .u32 x3 1)) (fun H5 =>
 ift (((bAnd .u32 x1 1) : Int) == 1)
 (ldI H5 .u32 v0 fun x7 =>
 st v0 (.int .u32 (bXor .u32 x7 3988292384)) (fun H9 =>
 K H9) H5)
 (K H5)) H

theorem ad_frame_Sum_1 (C : Ctx) (v0 : Nat × Nat) (K : Heap → Prop) (H : Heap) (h : sh_frame_Sum_1 C v0 K H) : c_frame_Sum_1 C v0 K H := by
  refine Spec.enter Try.func24 rfl Try.ntmps24 rfl ?_
  refine GC.sub [(0, pv (some v0))] ⟨rfl, trivial⟩ ?_
  refine GC.seq ?_
  refine GC.region ?_
  obtain ⟨x1, hr2, h⟩ := h
  refine GL.val trivial rfl (OV.load (p := v0) rfl rfl hr2) ?_
  refine GL.val trivial rfl (OV.ibin (v := .int .u32 (bAnd .u32 x1 1)) rfl rfl rfl) ?_
  refine GL.val trivial rfl (OV.ibin (v := .bool (((bAnd .u32 x1 1) : Int) == 1)) rfl rfl rfl) ?_
  refine GL.val trivial rfl (OV.assign (v := .bool (((bAnd .u32 x1 1) : Int) == 1)) rfl) ?_
  refine GL.nil ?_
  refine GC.seq ?_
  refine GC.region ?_
  obtain ⟨x3, hr4, h⟩ := h
  refine GL.val trivial rfl (OV.load (p := v0) rfl rfl hr4) ?_
  refine GL.val trivial rfl (OV.shr rfl rfl (by decide)) ?_
  refine GL.store (p := v0) (v := .int .u32 (sShr .u32 x3 1)) h trivial rfl rfl rfl rfl ?_
  intro H5 h
  refine GL.nil ?_
  refine GC.seq ?_
  refine GC.region ?_
  refine GL.val trivial rfl (OV.move (v := .bool (((bAnd .u32 x1 1) : Int) == 1)) rfl) ?_
  refine GL.nil ?_
  refine GC.cond (b := ((bAnd .u32 x1 1) : Int) == 1) rfl (fun hc6 => ?_) (fun hc6 => ?_)
  · replace h := And.left h hc6
    refine GC.region ?_
    obtain ⟨x7, hr8, h⟩ := h
    refine GL.val trivial rfl (OV.load (p := v0) rfl rfl hr8) ?_
    refine GL.val trivial rfl (OV.ibin (v := .int .u32 (bXor .u32 x7 3988292384)) rfl rfl rfl) ?_
    refine GL.store (p := v0) (v := .int .u32 (bXor .u32 x7 3988292384)) h trivial rfl rfl rfl rfl ?_
    intro H9 h
    exact GL.ends (fun _ _ hf hs => post_tmp0 rfl hf hs ⟨rfl, h⟩)
  · replace h := And.right h hc6
    exact GC.ends (fun _ _ hf hs => post_tmp0 rfl hf hs ⟨rfl, h⟩)

def sh_frame_get (C : Ctx) (p_b : Sl) (K : Int → Heap → Prop) (H : Heap) : Prop :=
  ixa p_b 0 fun p1 =>
 ldI H .u8 (p1.1, p1.2 + (0 : Int).toNat * 1) fun x6 =>
 ixa p_b 1 fun p8 =>
 ldI H .u8 (p8.1, p8.2 + (1 : Int).toNat * 1) fun x13 =>
 ixa p_b 2 fun p15 =>
 ldI H .u8 (p15.1, p15.2 + (2 : Int).toNat * 1) fun x20 =>
 ixa p_b 3 fun p22 =>
 ldI H .u8 (p22.1, p22.2 + (3 : Int).toNat * 1) fun x27 =>
 K (bOr .u32 (bOr .u32 (bOr .u32 (sShl .u32 (w .u32 x6) 24) (sShl .u32 (w .u32 x13) 16)) (sShl .u32 (w .u32 x20) 8)) (w .u32 x27)) H

theorem ad_frame_get (C : Ctx) (p_b : Sl) (K : Int → Heap → Prop) (H : Heap) (h : sh_frame_get C p_b K H) : c_frame_get C p_b K H := by
  refine Spec.enter Try.func25 rfl Try.ntmps25 rfl ?_
  refine GC.sub [(0, slv p_b)] ⟨rfl, trivial⟩ ?_
  refine GC.seq ?_
  refine GC.region ?_
  refine GL.val trivial rfl (OV.assign (v := .int .u32 0) rfl) ?_
  refine GL.nil ?_
  refine GC.seq ?_
  refine GC.draw (by kernel_rfl) (by kernel_rfl) ?_
  refine GQ.val trivial rfl (OV.move (v := slv p_b) rfl) ?_
  obtain ⟨p1, ha2, hb3, hc4, hd5, h⟩ := h
  refine GQ.val trivial rfl (OV.indexAddr (s := p_b) rfl rfl rfl rfl ha2 hb3 hc4 hd5) ?_
  obtain ⟨x6, hr7, h⟩ := h
  refine GQ.val trivial rfl (OV.load (p := (p1.1, p1.2 + (0 : Int).toNat * 1)) rfl rfl hr7) ?_
  refine GQ.val trivial rfl (OV.convInt rfl rfl rfl) ?_
  refine GQ.val trivial rfl (OV.shl rfl rfl (by decide)) ?_
  refine GQ.val trivial rfl (OV.move (v := slv p_b) rfl) ?_
  obtain ⟨p8, ha9, hb10, hc11, hd12, h⟩ := h
  refine GQ.val trivial rfl (OV.indexAddr (s := p_b) rfl rfl rfl rfl ha9 hb10 hc11 hd12) ?_
  obtain ⟨x13, hr14, h⟩ := h
  refine GQ.val trivial rfl (OV.load (p := (p8.1, p8.2 + (1 : Int).toNat * 1)) rfl rfl hr14) ?_
  refine GQ.val trivial rfl (OV.convInt rfl rfl rfl) ?_
  refine GQ.val trivial rfl (OV.shl rfl rfl (by decide)) ?_
  refine GQ.val trivial rfl (OV.ibin (v := .int .u32 (bOr .u32 (sShl .u32 (w .u32 x6) 24) (sShl .u32 (w .u32 x13) 16))) rfl rfl rfl) ?_
  refine GQ.val trivial rfl (OV.move (v := slv p_b) rfl) ?_
  obtain ⟨p15, ha16, hb17, hc18, hd19, h⟩ := h
  refine GQ.val trivial rfl (OV.indexAddr (s := p_b) rfl rfl rfl rfl ha16 hb17 hc18 hd19) ?_
  obtain ⟨x20, hr21, h⟩ := h
  refine GQ.val trivial rfl (OV.load (p := (p15.1, p15.2 + (2 : Int).toNat * 1)) rfl rfl hr21) ?_
  refine GQ.val trivial rfl (OV.convInt rfl rfl rfl) ?_
  refine GQ.val trivial rfl (OV.shl rfl rfl (by decide)) ?_
  refine GQ.val trivial rfl (OV.ibin (v := .int .u32 (bOr .u32 (bOr .u32 (sShl .u32 (w .u32 x6) 24) (sShl .u32 (w .u32 x13) 16)) (sShl .u32 (w .u32 x20) 8))) rfl rfl rfl) ?_
  refine GQ.val trivial rfl (OV.move (v := slv p_b) rfl) ?_
  obtain ⟨p22, ha23, hb24, hc25, hd26, h⟩ := h
  refine GQ.val trivial rfl (OV.indexAddr (s := p_b) rfl rfl rfl rfl ha23 hb24 hc25 hd26) ?_
  obtain ⟨x27, hr28, h⟩ := h
  refine GQ.val trivial rfl (OV.load (p := (p22.1, p22.2 + (3 : Int).toNat * 1)) rfl rfl hr28) ?_
  refine GQ.val trivial rfl (OV.convInt rfl rfl rfl) ?_
  refine GQ.val trivial rfl (OV.ibin (v := .int .u32 (bOr .u32 (bOr .u32 (bOr .u32 (sShl .u32 (w .u32 x6) 24) (sShl .u32 (w .u32 x13) 16)) (sShl .u32 (w .u32 x20) 8)) (w .u32 x27))) rfl rfl rfl) ?_
  refine GQ.val trivial rfl (OV.assign (v := .int .u32 (bOr .u32 (bOr .u32 (bOr .u32 (sShl .u32 (w .u32 x6) 24) (sShl .u32 (w .u32 x13) 16)) (sShl .u32 (w .u32 x20) 8)) (w .u32 x27))) rfl) ?_
  refine GQ.nil ?_
  refine GL.nil ?_
  exact GC.ret (fun _ _ hf hs => post_tmp1 rfl rfl hf hs ⟨(bOr .u32 (bOr .u32 (bOr .u32 (sShl .u32 (w .u32 x6) 24) (sShl .u32 (w .u32 x13) 16)) (sShl .u32 (w .u32 x20) 8)) (w .u32 x27)), rfl, h⟩)

def sh_frame_Reader_close (C : Ctx) (p_r : Option (Nat × Nat)) (p_out : Sl) (p_e : Int) (K : Sl → Int → Heap → Prop) (H : Heap) : Prop :=
  nck p_r fun p1 =>
 st (p1.1, p1.2 + 0) (slv Sl.nil) (fun H3 =>
 nck p_r fun p4 =>
 st (p4.1, p4.2 + 1) (.bool true) (fun H6 =>
 K p_out p_e H6) H3) H

theorem ad_frame_Reader_close (C : Ctx) (p_r : Option (Nat × Nat)) (p_out : Sl) (p_e : Int) (K : Sl → Int → Heap → Prop) (H : Heap) (h : sh_frame_Reader_close C p_r p_out p_e K H) : c_frame_Reader_close C p_r p_out p_e K H := by
  refine Spec.enter Try.func26 rfl Try.ntmps26 rfl ?_
  refine GC.sub [(0, pv p_r), (1, slv p_out), (2, .int .i64 p_e)] ⟨rfl, rfl, rfl, trivial⟩ ?_
  refine GC.seq ?_
  refine GC.region ?_
  refine GL.val trivial rfl (OV.assign (v := slv Sl.nil) rfl) ?_
  refine GL.val trivial rfl (OV.assign (v := .int .i64 0) rfl) ?_
  refine GL.nil ?_
  refine GC.seq ?_
  refine GC.region ?_
  refine GL.val trivial rfl (OV.move (v := pv p_r) rfl) ?_
  refine GL.val trivial rfl (OV.move (v := pv p_r) rfl) ?_
  obtain ⟨p1, hp2, h⟩ := h
  refine GL.val trivial rfl (OV.nilCheck (q := p_r) rfl hp2) ?_
  refine GL.val trivial rfl (OV.fieldAddr (p := p1) rfl rfl) ?_
  refine GL.store (p := (p1.1, p1.2 + 0)) (v := slv Sl.nil) h trivial rfl rfl rfl rfl ?_
  intro H3 h
  obtain ⟨p4, hp5, h⟩ := h
  refine GL.val trivial rfl (OV.nilCheck (q := p_r) rfl hp5) ?_
  refine GL.val trivial rfl (OV.fieldAddr (p := p4) rfl rfl) ?_
  refine GL.store (p := (p4.1, p4.2 + 1)) (v := .bool true) h trivial rfl rfl rfl rfl ?_
  intro H6 h
  refine GL.nil ?_
  refine GC.seq ?_
  refine GC.region ?_
  refine GL.val trivial rfl (OV.move (v := slv p_out) rfl) ?_
  refine GL.val trivial rfl (OV.move (v := .int .i64 p_e) rfl) ?_
  refine GL.val trivial rfl (OV.assign (v := slv p_out) rfl) ?_
  refine GL.val trivial rfl (OV.assign (v := .int .i64 p_e) rfl) ?_
  refine GL.nil ?_
  exact GC.ret (fun _ _ hf hs => post_tmp2 rfl rfl rfl hf hs ⟨p_out, p_e, rfl, h⟩)

def sh_ref30_Cut (C : Ctx) (p_s : Str) (K : Sl → Int → Int → Heap → Prop) (H : Heap) : Prop :=
  lp (α := Str × Sl) (p_s, Sl.nil) H (fun x1 J2 H3 =>
 ift (decide (((List.length x1.1 : Int) : Int) < 4))
 (K x1.2 (List.length x1.1 : Int) 0 H3)
 (c_ref30_number C x1.1 (fun r5 H6 =>
 ift (decide ((r5 : Int) > 65536))
 (K x1.2 0 40 H6)
 (ift (decide (((List.length x1.1 : Int) : Int) < (w .i64 ((w .i64 r5) + 8))))
 (K x1.2 (List.length x1.1 : Int) 0 H6)
 (dr H6 fun Hs9 =>
 slS x1.1 (w .i64 (4 + (w .i64 r5))) (List.length x1.1 : Int) fun t11 =>
 slS x1.1 4 (w .i64 (4 + (w .i64 r5))) fun t17 =>
 c_ref30_number C t11 (fun r24 H25 =>
 Heap.le Hs9 H25 ∧
 c_ref30_Sum C t17 (fun r27 H28 =>
 Heap.le Hs9 H28 ∧
 ift ((r24 : Int) != r27)
 (K x1.2 0 90 H28)
 (slS x1.1 4 (w .i64 (4 + (w .i64 r5))) fun t30 =>
 apd ([sv []]) 16 x1.2 ([sv t30]) 1 (fun r36 H37 =>
 slS x1.1 (w .i64 (8 + (w .i64 r5))) (List.length x1.1 : Int) fun t38 =>
 J2 (t38, r36) H37) H28)) H25) H6))) H3))

theorem ad_ref30_Cut (C : Ctx) (p_s : Str) (K : Sl → Int → Int → Heap → Prop) (H : Heap) (h : sh_ref30_Cut C p_s K H) : c_ref30_Cut C p_s K H := by
  refine Spec.enter Try.func27 rfl Try.ntmps27 rfl ?_
  refine GC.sub [(0, sv p_s)] ⟨rfl, trivial⟩ ?_
  refine GC.seq ?_
  refine GC.region ?_
  refine GL.val trivial rfl (OV.assign (v := slv Sl.nil) rfl) ?_
  refine GL.val trivial rfl (OV.assign (v := .int .i64 0) rfl) ?_
  refine GL.val trivial rfl (OV.assign (v := .int .i64 0) rfl) ?_
  refine GL.nil ?_
  refine GC.seq ?_
  refine GC.region ?_
  refine GL.val trivial rfl (OV.assign (v := slv Sl.nil) rfl) ?_
  refine GL.nil ?_
  refine GC.block ?_
  refine GC.loop (α := Str × Sl) h (fun x1 => [(0, sv x1.1), (5, slv x1.2)]) ⟨rfl, rfl, trivial⟩ ?_
  intro x1 H3 J2 h
  refine GC.block ?_
  refine GC.seq ?_
  refine GC.seq ?_
  refine GC.region ?_
  refine GL.val trivial rfl (OV.move (v := sv x1.1) rfl) ?_
  refine GL.val trivial rfl (OV.lenStr (s := x1.1) rfl rfl) ?_
  refine GL.val trivial rfl (OV.ibin (v := .bool (decide (((List.length x1.1 : Int) : Int) < 4))) rfl rfl rfl) ?_
  refine GL.nil ?_
  refine GC.cond (b := decide (((List.length x1.1 : Int) : Int) < 4)) rfl (fun hc4 => ?_) (fun hc4 => ?_)
  · replace h := And.left h hc4
    refine GC.seq ?_
    refine GC.region ?_
    refine GL.val trivial rfl (OV.move (v := slv x1.2) rfl) ?_
    refine GL.val trivial rfl (OV.move (v := sv x1.1) rfl) ?_
    refine GL.val trivial rfl (OV.lenStr (s := x1.1) rfl rfl) ?_
    refine GL.val trivial rfl (OV.assign (v := slv x1.2) rfl) ?_
    refine GL.val trivial rfl (OV.assign (v := .int .i64 (List.length x1.1 : Int)) rfl) ?_
    refine GL.val trivial rfl (OV.assign (v := .int .i64 0) rfl) ?_
    refine GL.nil ?_
    exact GC.ret (fun _ _ hf hs => post_tmp3 rfl rfl rfl rfl hf hs ⟨x1.2, (List.length x1.1 : Int), 0, rfl, h⟩)
  · replace h := And.right h hc4
    refine GC.skip ?_
    refine GC.seq ?_
    refine GC.region ?_
    refine GL.val trivial rfl (OV.move (v := sv x1.1) rfl) ?_
    refine GL.call h trivial rfl ok_ref30_number (vs := [sv x1.1]) rfl ?_
    rintro _ H6 ⟨r5, rfl, h⟩
    refine GL.val trivial rfl (OV.assign (v := .int .u32 r5) rfl) ?_
    refine GL.nil ?_
    refine GC.seq ?_
    refine GC.seq ?_
    refine GC.region ?_
    refine GL.val trivial rfl (OV.move (v := .int .u32 r5) rfl) ?_
    refine GL.val trivial rfl (OV.ibin (v := .bool (decide ((r5 : Int) > 65536))) rfl rfl rfl) ?_
    refine GL.nil ?_
    refine GC.cond (b := decide ((r5 : Int) > 65536)) rfl (fun hc7 => ?_) (fun hc7 => ?_)
    · replace h := And.left h hc7
      refine GC.seq ?_
      refine GC.region ?_
      refine GL.val trivial rfl (OV.move (v := slv x1.2) rfl) ?_
      refine GL.val trivial rfl (OV.assign (v := slv x1.2) rfl) ?_
      refine GL.val trivial rfl (OV.assign (v := .int .i64 0) rfl) ?_
      refine GL.val trivial rfl (OV.assign (v := .int .i64 40) rfl) ?_
      refine GL.nil ?_
      exact GC.ret (fun _ _ hf hs => post_tmp3 rfl rfl rfl rfl hf hs ⟨x1.2, 0, 40, rfl, h⟩)
    · replace h := And.right h hc7
      refine GC.skip ?_
      refine GC.seq ?_
      refine GC.region ?_
      refine GL.val trivial rfl (OV.move (v := .int .u32 r5) rfl) ?_
      refine GL.val trivial rfl (OV.convInt rfl rfl rfl) ?_
      refine GL.val trivial rfl (OV.assign (v := .int .i64 (w .i64 r5)) rfl) ?_
      refine GL.nil ?_
      refine GC.seq ?_
      refine GC.seq ?_
      refine GC.region ?_
      refine GL.val trivial rfl (OV.move (v := sv x1.1) rfl) ?_
      refine GL.val trivial rfl (OV.lenStr (s := x1.1) rfl rfl) ?_
      refine GL.val trivial rfl (OV.move (v := .int .i64 (w .i64 r5)) rfl) ?_
      refine GL.val trivial rfl (OV.ibin (v := .int .i64 (w .i64 ((w .i64 r5) + 8))) rfl rfl rfl) ?_
      refine GL.val trivial rfl (OV.ibin (v := .bool (decide (((List.length x1.1 : Int) : Int) < (w .i64 ((w .i64 r5) + 8))))) rfl rfl rfl) ?_
      refine GL.nil ?_
      refine GC.cond (b := decide (((List.length x1.1 : Int) : Int) < (w .i64 ((w .i64 r5) + 8)))) rfl (fun hc8 => ?_) (fun hc8 => ?_)
      · replace h := And.left h hc8
        refine GC.seq ?_
        refine GC.region ?_
        refine GL.val trivial rfl (OV.move (v := slv x1.2) rfl) ?_
        refine GL.val trivial rfl (OV.move (v := sv x1.1) rfl) ?_
        refine GL.val trivial rfl (OV.lenStr (s := x1.1) rfl rfl) ?_
        refine GL.val trivial rfl (OV.assign (v := slv x1.2) rfl) ?_
        refine GL.val trivial rfl (OV.assign (v := .int .i64 (List.length x1.1 : Int)) rfl) ?_
        refine GL.val trivial rfl (OV.assign (v := .int .i64 0) rfl) ?_
        refine GL.nil ?_
        exact GC.ret (fun _ _ hf hs => post_tmp3 rfl rfl rfl rfl hf hs ⟨x1.2, (List.length x1.1 : Int), 0, rfl, h⟩)
      · replace h := And.right h hc8
        refine GC.skip ?_
        refine GC.seq ?_
        refine GC.seq ?_
        obtain ⟨Hs9, hle10, h⟩ := h
        refine GC.any (Hs := Hs9) (by kernel_rfl) hle10 ?_
        refine GA.take 0 rfl (by kernel_rfl) (by kernel_rfl) (by kernel_rfl) (fun _ _ _ h => by obtain ⟨_, _, _, h, _⟩ := h; cases h) trivial rfl (OV.move (v := sv x1.1) rfl) ?_
        refine GA.take 1 rfl (by kernel_rfl) (by kernel_rfl) (by kernel_rfl) (fun _ _ _ h => by obtain ⟨_, _, _, h, _⟩ := h; cases h) trivial rfl (OV.move (v := .int .i64 (w .i64 r5)) rfl) ?_
        refine GA.take 2 rfl (by kernel_rfl) (by kernel_rfl) (by kernel_rfl) (fun _ _ _ h => by obtain ⟨_, _, _, h, _⟩ := h; cases h) trivial rfl (OV.ibin (v := .int .i64 (w .i64 (4 + (w .i64 r5)))) rfl rfl rfl) ?_
        obtain ⟨h12, h13, h14, t11, h15, h⟩ := h
        refine GA.take 3 rfl (by kernel_rfl) (by kernel_rfl) (by kernel_rfl) (fun _ _ _ h => by obtain ⟨_, _, _, h, _⟩ := h; cases h) trivial rfl (OV.sliceStr (s := x1.1) h12 h13 h14 h15 rfl rfl rfl rfl rfl rfl) ?_
        refine GA.take 5 rfl (by kernel_rfl) (by kernel_rfl) (by kernel_rfl) (fun _ _ _ h => by obtain ⟨_, _, _, h, _⟩ := h; cases h) trivial rfl (OV.move (v := sv x1.1) rfl) ?_
        refine GA.take 6 rfl (by kernel_rfl) (by kernel_rfl) (by kernel_rfl) (fun _ _ _ h => by obtain ⟨_, _, _, h, _⟩ := h; cases h) trivial rfl (OV.move (v := .int .i64 (w .i64 r5)) rfl) ?_
        refine GA.take 7 rfl (by kernel_rfl) (by kernel_rfl) (by kernel_rfl) (fun _ _ _ h => by obtain ⟨_, _, _, h, _⟩ := h; cases h) trivial rfl (OV.ibin (v := .int .i64 (w .i64 (4 + (w .i64 r5)))) rfl rfl rfl) ?_
        obtain ⟨h18, h19, h20, t17, h21, h⟩ := h
        refine GA.take 8 rfl (by kernel_rfl) (by kernel_rfl) (by kernel_rfl) (fun _ _ _ h => by obtain ⟨_, _, _, h, _⟩ := h; cases h) trivial rfl (OV.sliceStr (s := x1.1) h18 h19 h20 h21 rfl rfl rfl rfl rfl rfl) ?_
        refine GA.eff 4 rfl (by kernel_rfl) ?_
        refine GL.call h trivial rfl ok_ref30_number (vs := [sv t11]) rfl ?_
        rintro _ H25 ⟨r24, rfl, h⟩
        obtain ⟨hle23, h⟩ := h
        refine GA.back hle23 ?_
        refine GA.eff 9 rfl (by kernel_rfl) ?_
        refine GL.call h trivial rfl ok_ref30_Sum (vs := [sv t17]) rfl ?_
        rintro _ H28 ⟨r27, rfl, h⟩
        obtain ⟨hle26, h⟩ := h
        refine GA.back hle26 ?_
        refine GA.take 10 rfl (by kernel_rfl) (by kernel_rfl) (by kernel_rfl) (fun _ _ _ h => by obtain ⟨_, _, _, h, _⟩ := h; cases h) trivial rfl (OV.ibin (v := .bool ((r24 : Int) != r27)) rfl rfl rfl) ?_
        refine GA.done (by kernel_rfl) ?_
        refine GL.nil ?_
        refine GC.cond (b := (r24 : Int) != r27) rfl (fun hc29 => ?_) (fun hc29 => ?_)
        · replace h := And.left h hc29
          refine GC.seq ?_
          refine GC.region ?_
          refine GL.val trivial rfl (OV.move (v := slv x1.2) rfl) ?_
          refine GL.val trivial rfl (OV.assign (v := slv x1.2) rfl) ?_
          refine GL.val trivial rfl (OV.assign (v := .int .i64 0) rfl) ?_
          refine GL.val trivial rfl (OV.assign (v := .int .i64 90) rfl) ?_
          refine GL.nil ?_
          exact GC.ret (fun _ _ hf hs => post_tmp3 rfl rfl rfl rfl hf hs ⟨x1.2, 0, 90, rfl, h⟩)
        · replace h := And.right h hc29
          refine GC.skip ?_
          refine GC.seq ?_
          refine GC.region ?_
          refine GL.val trivial rfl (OV.move (v := slv x1.2) rfl) ?_
          refine GL.val trivial rfl (OV.move (v := sv x1.1) rfl) ?_
          refine GL.val trivial rfl (OV.move (v := .int .i64 (w .i64 r5)) rfl) ?_
          refine GL.val trivial rfl (OV.ibin (v := .int .i64 (w .i64 (4 + (w .i64 r5)))) rfl rfl rfl) ?_
          obtain ⟨h31, h32, h33, t30, h34, h⟩ := h
          refine GL.val trivial rfl (OV.sliceStr (s := x1.1) h31 h32 h33 h34 rfl rfl rfl rfl rfl rfl) ?_
          refine GL.appendLit (s := x1.2) (ys := [sv t30]) (zc := [sv []]) (bytes := 16) h trivial rfl (fun _ => trivial) rfl (fun _ => rfl) (fun _ => rfl) (vs := [(0, sv t30)]) rfl ⟨9, fun _ => by kernel_rfl⟩ ⟨⟨_, _, _, rfl, rfl, rfl, rfl, rfl, rfl⟩⟩ rfl rfl ?_
          intro _ r36 H37 h
          refine GL.val trivial rfl (OV.assign (v := slv r36) rfl) ?_
          refine GL.nil ?_
          refine GC.region ?_
          refine GL.val trivial rfl (OV.move (v := sv x1.1) rfl) ?_
          refine GL.val trivial rfl (OV.move (v := .int .i64 (w .i64 r5)) rfl) ?_
          refine GL.val trivial rfl (OV.ibin (v := .int .i64 (w .i64 (8 + (w .i64 r5)))) rfl rfl rfl) ?_
          obtain ⟨h39, h40, h41, t38, h42, h⟩ := h
          refine GL.val trivial rfl (OV.sliceStr (s := x1.1) h39 h40 h41 h42 rfl rfl rfl rfl rfl rfl) ?_
          refine GL.val trivial rfl (OV.assign (v := sv t38) rfl) ?_
          exact GL.jump (fun _ _ h => h) (t38, r36) h ⟨rfl, rfl, trivial⟩

def sh_ref30_number (C : Ctx) (p_s : Str) (K : Int → Heap → Prop) (H : Heap) : Prop :=
  ixs p_s 0 fun c1 =>
 ixs p_s 1 fun c4 =>
 ixs p_s 2 fun c7 =>
 ixs p_s 3 fun c10 =>
 K (bOr .u32 (bOr .u32 (bOr .u32 (sShl .u32 (w .u32 (c1.toNat : Int)) 24) (sShl .u32 (w .u32 (c4.toNat : Int)) 16)) (sShl .u32 (w .u32 (c7.toNat : Int)) 8)) (w .u32 (c10.toNat : Int))) H

theorem ad_ref30_number (C : Ctx) (p_s : Str) (K : Int → Heap → Prop) (H : Heap) (h : sh_ref30_number C p_s K H) : c_ref30_number C p_s K H := by
  refine Spec.enter Try.func28 rfl Try.ntmps28 rfl ?_
  refine GC.sub [(0, sv p_s)] ⟨rfl, trivial⟩ ?_
  refine GC.seq ?_
  refine GC.region ?_
  refine GL.val trivial rfl (OV.assign (v := .int .u32 0) rfl) ?_
  refine GL.nil ?_
  refine GC.seq ?_
  refine GC.draw (by kernel_rfl) (by kernel_rfl) ?_
  refine GQ.val trivial rfl (OV.move (v := sv p_s) rfl) ?_
  obtain ⟨c1, ha2, hb3, h⟩ := h
  refine GQ.val trivial rfl (OV.indexStr (s := p_s) rfl rfl rfl ha2 hb3) ?_
  refine GQ.val trivial rfl (OV.convInt rfl rfl rfl) ?_
  refine GQ.val trivial rfl (OV.shl rfl rfl (by decide)) ?_
  refine GQ.val trivial rfl (OV.move (v := sv p_s) rfl) ?_
  obtain ⟨c4, ha5, hb6, h⟩ := h
  refine GQ.val trivial rfl (OV.indexStr (s := p_s) rfl rfl rfl ha5 hb6) ?_
  refine GQ.val trivial rfl (OV.convInt rfl rfl rfl) ?_
  refine GQ.val trivial rfl (OV.shl rfl rfl (by decide)) ?_
  refine GQ.val trivial rfl (OV.ibin (v := .int .u32 (bOr .u32 (sShl .u32 (w .u32 (c1.toNat : Int)) 24) (sShl .u32 (w .u32 (c4.toNat : Int)) 16))) rfl rfl rfl) ?_
  refine GQ.val trivial rfl (OV.move (v := sv p_s) rfl) ?_
  obtain ⟨c7, ha8, hb9, h⟩ := h
  refine GQ.val trivial rfl (OV.indexStr (s := p_s) rfl rfl rfl ha8 hb9) ?_
  refine GQ.val trivial rfl (OV.convInt rfl rfl rfl) ?_
  refine GQ.val trivial rfl (OV.shl rfl rfl (by decide)) ?_
  refine GQ.val trivial rfl (OV.ibin (v := .int .u32 (bOr .u32 (bOr .u32 (sShl .u32 (w .u32 (c1.toNat : Int)) 24) (sShl .u32 (w .u32 (c4.toNat : Int)) 16)) (sShl .u32 (w .u32 (c7.toNat : Int)) 8))) rfl rfl rfl) ?_
  refine GQ.val trivial rfl (OV.move (v := sv p_s) rfl) ?_
  obtain ⟨c10, ha11, hb12, h⟩ := h
  refine GQ.val trivial rfl (OV.indexStr (s := p_s) rfl rfl rfl ha11 hb12) ?_
  refine GQ.val trivial rfl (OV.convInt rfl rfl rfl) ?_
  refine GQ.val trivial rfl (OV.ibin (v := .int .u32 (bOr .u32 (bOr .u32 (bOr .u32 (sShl .u32 (w .u32 (c1.toNat : Int)) 24) (sShl .u32 (w .u32 (c4.toNat : Int)) 16)) (sShl .u32 (w .u32 (c7.toNat : Int)) 8)) (w .u32 (c10.toNat : Int)))) rfl rfl rfl) ?_
  refine GQ.val trivial rfl (OV.assign (v := .int .u32 (bOr .u32 (bOr .u32 (bOr .u32 (sShl .u32 (w .u32 (c1.toNat : Int)) 24) (sShl .u32 (w .u32 (c4.toNat : Int)) 16)) (sShl .u32 (w .u32 (c7.toNat : Int)) 8)) (w .u32 (c10.toNat : Int)))) rfl) ?_
  refine GQ.nil ?_
  refine GL.nil ?_
  exact GC.ret (fun _ _ hf hs => post_tmp1 rfl rfl hf hs ⟨(bOr .u32 (bOr .u32 (bOr .u32 (sShl .u32 (w .u32 (c1.toNat : Int)) 24) (sShl .u32 (w .u32 (c4.toNat : Int)) 16)) (sShl .u32 (w .u32 (c7.toNat : Int)) 8)) (w .u32 (c10.toNat : Int))), rfl, h⟩)
end Sx
