/-
  Made by program (wip/gen/gen.py): the shallow forms of the functions, and that each implies its contract.
-/
import Derived.Test.YtlpjpjbgfffffaaSxBld
import Derived.Test.YtlpjpjbgfffffaaProg
set_option linter.unusedVariables false
set_option maxRecDepth 100000
namespace Sx
open Go Go.Proofs

structure T_code_Reader where
  b_ : Sl
  turn_ : Int
  failed_ : Bool
def T_code_Reader.c (x : T_code_Reader) : List Value := [slv x.b_, .int .u8 x.turn_, .bool x.failed_]
def T_code_Reader.zero : T_code_Reader := ⟨Sl.nil, 0, false⟩
structure T_code_pen where
  b_ : Sl
  turn_ : Int
def T_code_pen.c (x : T_code_pen) : List Value := [slv x.b_, .int .u8 x.turn_]
def T_code_pen.zero : T_code_pen := ⟨Sl.nil, 0⟩

theorem ok_law03_CodePlain : CallOk Try.prog 3 := ⟨⟨_, Try.func3, rfl, by decide +kernel⟩⟩
theorem ok_law03_CodeShort : CallOk Try.prog 4 := ⟨⟨_, Try.func4, rfl, by decide +kernel⟩⟩
theorem ok_law03_works : CallOk Try.prog 5 := ⟨⟨_, Try.func5, rfl, by decide +kernel⟩⟩
theorem ok_law03_behind : CallOk Try.prog 6 := ⟨⟨_, Try.func6, rfl, by decide +kernel⟩⟩
theorem ok_code_Num : CallOk Try.prog 7 := ⟨⟨_, Try.func7, rfl, by decide +kernel⟩⟩
theorem ok_code_Count : CallOk Try.prog 8 := ⟨⟨_, Try.func8, rfl, by decide +kernel⟩⟩
theorem ok_code_Str : CallOk Try.prog 9 := ⟨⟨_, Try.func9, rfl, by decide +kernel⟩⟩
theorem ok_law03_stands : CallOk Try.prog 10 := ⟨⟨_, Try.func10, rfl, by decide +kernel⟩⟩
theorem ok_code_Flag : CallOk Try.prog 11 := ⟨⟨_, Try.func11, rfl, by decide +kernel⟩⟩
theorem ok_code_NewReader : CallOk Try.prog 12 := ⟨⟨_, Try.func12, rfl, by decide +kernel⟩⟩
theorem ok_code_Reader_Count : CallOk Try.prog 13 := ⟨⟨_, Try.func13, rfl, by decide +kernel⟩⟩
theorem ok_code_Reader_Num : CallOk Try.prog 14 := ⟨⟨_, Try.func14, rfl, by decide +kernel⟩⟩
theorem ok_code_Reader_Str : CallOk Try.prog 15 := ⟨⟨_, Try.func15, rfl, by decide +kernel⟩⟩
theorem ok_code_Reader_Done : CallOk Try.prog 16 := ⟨⟨_, Try.func16, rfl, by decide +kernel⟩⟩
theorem ok_code_Reader_Flag : CallOk Try.prog 17 := ⟨⟨_, Try.func17, rfl, by decide +kernel⟩⟩
theorem ok_code_behind : CallOk Try.prog 18 := ⟨⟨_, Try.func18, rfl, by decide +kernel⟩⟩
theorem ok_code_pen_num : CallOk Try.prog 19 := ⟨⟨_, Try.func19, rfl, by decide +kernel⟩⟩
theorem ok_code_pen_number : CallOk Try.prog 20 := ⟨⟨_, Try.func20, rfl, by decide +kernel⟩⟩
theorem ok_code_pen_text : CallOk Try.prog 21 := ⟨⟨_, Try.func21, rfl, by decide +kernel⟩⟩
theorem ok_code_pen_put : CallOk Try.prog 22 := ⟨⟨_, Try.func22, rfl, by decide +kernel⟩⟩
theorem ok_slices_Clone_byte_byte : CallOk Try.prog 23 := ⟨⟨_, Try.func23, rfl, by decide +kernel⟩⟩
theorem ok_code_Reader_number : CallOk Try.prog 24 := ⟨⟨_, Try.func24, rfl, by decide +kernel⟩⟩
theorem ok_code_Reader_next : CallOk Try.prog 25 := ⟨⟨_, Try.func25, rfl, by decide +kernel⟩⟩
theorem ok_code_Reader_ask : CallOk Try.prog 26 := ⟨⟨_, Try.func26, rfl, by decide +kernel⟩⟩
theorem ok_code_Reader_flip : CallOk Try.prog 27 := ⟨⟨_, Try.func27, rfl, by decide +kernel⟩⟩
theorem ok_code_Reader_OK : CallOk Try.prog 28 := ⟨⟨_, Try.func28, rfl, by decide +kernel⟩⟩
theorem ok_code_Reader_Left : CallOk Try.prog 29 := ⟨⟨_, Try.func29, rfl, by decide +kernel⟩⟩
theorem ok_code_pen_flip : CallOk Try.prog 30 := ⟨⟨_, Try.func30, rfl, by decide +kernel⟩⟩
theorem ok_math_bits_Len64 : CallOk Try.prog 31 := ⟨⟨_, Try.func31, rfl, by decide +kernel⟩⟩



def c_law03_CodePlain (C : Ctx) (p_n : Int) (p_m : Int) (p_c : Int) (p_d : Int) (p_s : Str) (p_t : Str) (p_x : Sl) (p_y : Sl) (K : Bool → Heap → Prop) (H : Heap) : Prop :=
  Spec Try.prog C 3 [.int .i64 p_n, .int .i64 p_m, .int .i64 p_c, .int .i64 p_d, sv p_s, sv p_t, slv p_x, slv p_y] H (fun v H2 => ∃ (r0 : Bool), v = .bool r0 ∧ K r0 H2)
theorem c_law03_CodePlain.mono {C : Ctx} {p_n : Int} {p_m : Int} {p_c : Int} {p_d : Int} {p_s : Str} {p_t : Str} {p_x : Sl} {p_y : Sl} {K K2 : Bool → Heap → Prop} {H : Heap} (h : c_law03_CodePlain C p_n p_m p_c p_d p_s p_t p_x p_y K H) (hk : ∀ r0 H2, K r0 H2 → K2 r0 H2) : c_law03_CodePlain C p_n p_m p_c p_d p_s p_t p_x p_y K2 H :=
  Spec.mono h fun _ H2 ⟨r0, hv, h2⟩ => ⟨r0, hv, hk r0 H2 h2⟩
theorem c_law03_CodePlain.gh {C : Ctx} {p_n : Int} {p_m : Int} {p_c : Int} {p_d : Int} {p_s : Str} {p_t : Str} {p_x : Sl} {p_y : Sl} {K : Bool → Heap → Prop} {H : Heap} (h : c_law03_CodePlain C p_n p_m p_c p_d p_s p_t p_x p_y (fun r0 H2 => ∃ H0, Gh C H2 H0 ∧ K r0 H0) H) : c_law03_CodePlain C p_n p_m p_c p_d p_s p_t p_x p_y K H :=
  Spec.gh (Spec.mono h fun _ H2 ⟨r0, hv, H0, hg, hk⟩ => ⟨H0, hg, r0, hv, hk⟩)
def c_law03_CodeShort (C : Ctx) (p_n : Int) (p_c : Int) (p_d : Int) (p_s : Str) (K : Bool → Heap → Prop) (H : Heap) : Prop :=
  Spec Try.prog C 4 [.int .i64 p_n, .int .i64 p_c, .int .i64 p_d, sv p_s] H (fun v H2 => ∃ (r0 : Bool), v = .bool r0 ∧ K r0 H2)
theorem c_law03_CodeShort.mono {C : Ctx} {p_n : Int} {p_c : Int} {p_d : Int} {p_s : Str} {K K2 : Bool → Heap → Prop} {H : Heap} (h : c_law03_CodeShort C p_n p_c p_d p_s K H) (hk : ∀ r0 H2, K r0 H2 → K2 r0 H2) : c_law03_CodeShort C p_n p_c p_d p_s K2 H :=
  Spec.mono h fun _ H2 ⟨r0, hv, h2⟩ => ⟨r0, hv, hk r0 H2 h2⟩
theorem c_law03_CodeShort.gh {C : Ctx} {p_n : Int} {p_c : Int} {p_d : Int} {p_s : Str} {K : Bool → Heap → Prop} {H : Heap} (h : c_law03_CodeShort C p_n p_c p_d p_s (fun r0 H2 => ∃ H0, Gh C H2 H0 ∧ K r0 H0) H) : c_law03_CodeShort C p_n p_c p_d p_s K H :=
  Spec.gh (Spec.mono h fun _ H2 ⟨r0, hv, H0, hg, hk⟩ => ⟨H0, hg, r0, hv, hk⟩)
def c_law03_works (C : Ctx) (K : Bool → Heap → Prop) (H : Heap) : Prop :=
  Spec Try.prog C 5 [] H (fun v H2 => ∃ (r0 : Bool), v = .bool r0 ∧ K r0 H2)
theorem c_law03_works.mono {C : Ctx} {K K2 : Bool → Heap → Prop} {H : Heap} (h : c_law03_works C  K H) (hk : ∀ r0 H2, K r0 H2 → K2 r0 H2) : c_law03_works C  K2 H :=
  Spec.mono h fun _ H2 ⟨r0, hv, h2⟩ => ⟨r0, hv, hk r0 H2 h2⟩
theorem c_law03_works.gh {C : Ctx} {K : Bool → Heap → Prop} {H : Heap} (h : c_law03_works C  (fun r0 H2 => ∃ H0, Gh C H2 H0 ∧ K r0 H0) H) : c_law03_works C  K H :=
  Spec.gh (Spec.mono h fun _ H2 ⟨r0, hv, H0, hg, hk⟩ => ⟨H0, hg, r0, hv, hk⟩)
def c_law03_behind (C : Ctx) (p_a : Sl) (p_b : Sl) (K : Sl → Heap → Prop) (H : Heap) : Prop :=
  Spec Try.prog C 6 [slv p_a, slv p_b] H (fun v H2 => ∃ (r0 : Sl), v = slv r0 ∧ K r0 H2)
theorem c_law03_behind.mono {C : Ctx} {p_a : Sl} {p_b : Sl} {K K2 : Sl → Heap → Prop} {H : Heap} (h : c_law03_behind C p_a p_b K H) (hk : ∀ r0 H2, K r0 H2 → K2 r0 H2) : c_law03_behind C p_a p_b K2 H :=
  Spec.mono h fun _ H2 ⟨r0, hv, h2⟩ => ⟨r0, hv, hk r0 H2 h2⟩
theorem c_law03_behind.gh {C : Ctx} {p_a : Sl} {p_b : Sl} {K : Sl → Heap → Prop} {H : Heap} (h : c_law03_behind C p_a p_b (fun r0 H2 => ∃ H0, Gh C H2 H0 ∧ K r0 H0) H) : c_law03_behind C p_a p_b K H :=
  Spec.gh (Spec.mono h fun _ H2 ⟨r0, hv, H0, hg, hk⟩ => ⟨H0, hg, r0, hv, hk⟩)
def c_code_Num (C : Ctx) (p_b : Sl) (p_n : Int) (K : Sl → Heap → Prop) (H : Heap) : Prop :=
  Spec Try.prog C 7 [slv p_b, .int .i64 p_n] H (fun v H2 => ∃ (r0 : Sl), v = slv r0 ∧ K r0 H2)
theorem c_code_Num.mono {C : Ctx} {p_b : Sl} {p_n : Int} {K K2 : Sl → Heap → Prop} {H : Heap} (h : c_code_Num C p_b p_n K H) (hk : ∀ r0 H2, K r0 H2 → K2 r0 H2) : c_code_Num C p_b p_n K2 H :=
  Spec.mono h fun _ H2 ⟨r0, hv, h2⟩ => ⟨r0, hv, hk r0 H2 h2⟩
theorem c_code_Num.gh {C : Ctx} {p_b : Sl} {p_n : Int} {K : Sl → Heap → Prop} {H : Heap} (h : c_code_Num C p_b p_n (fun r0 H2 => ∃ H0, Gh C H2 H0 ∧ K r0 H0) H) : c_code_Num C p_b p_n K H :=
  Spec.gh (Spec.mono h fun _ H2 ⟨r0, hv, H0, hg, hk⟩ => ⟨H0, hg, r0, hv, hk⟩)
def c_code_Count (C : Ctx) (p_b : Sl) (p_n : Int) (K : Sl → Heap → Prop) (H : Heap) : Prop :=
  Spec Try.prog C 8 [slv p_b, .int .i64 p_n] H (fun v H2 => ∃ (r0 : Sl), v = slv r0 ∧ K r0 H2)
theorem c_code_Count.mono {C : Ctx} {p_b : Sl} {p_n : Int} {K K2 : Sl → Heap → Prop} {H : Heap} (h : c_code_Count C p_b p_n K H) (hk : ∀ r0 H2, K r0 H2 → K2 r0 H2) : c_code_Count C p_b p_n K2 H :=
  Spec.mono h fun _ H2 ⟨r0, hv, h2⟩ => ⟨r0, hv, hk r0 H2 h2⟩
theorem c_code_Count.gh {C : Ctx} {p_b : Sl} {p_n : Int} {K : Sl → Heap → Prop} {H : Heap} (h : c_code_Count C p_b p_n (fun r0 H2 => ∃ H0, Gh C H2 H0 ∧ K r0 H0) H) : c_code_Count C p_b p_n K H :=
  Spec.gh (Spec.mono h fun _ H2 ⟨r0, hv, H0, hg, hk⟩ => ⟨H0, hg, r0, hv, hk⟩)
def c_code_Str (C : Ctx) (p_b : Sl) (p_s : Str) (K : Sl → Heap → Prop) (H : Heap) : Prop :=
  Spec Try.prog C 9 [slv p_b, sv p_s] H (fun v H2 => ∃ (r0 : Sl), v = slv r0 ∧ K r0 H2)
theorem c_code_Str.mono {C : Ctx} {p_b : Sl} {p_s : Str} {K K2 : Sl → Heap → Prop} {H : Heap} (h : c_code_Str C p_b p_s K H) (hk : ∀ r0 H2, K r0 H2 → K2 r0 H2) : c_code_Str C p_b p_s K2 H :=
  Spec.mono h fun _ H2 ⟨r0, hv, h2⟩ => ⟨r0, hv, hk r0 H2 h2⟩
theorem c_code_Str.gh {C : Ctx} {p_b : Sl} {p_s : Str} {K : Sl → Heap → Prop} {H : Heap} (h : c_code_Str C p_b p_s (fun r0 H2 => ∃ H0, Gh C H2 H0 ∧ K r0 H0) H) : c_code_Str C p_b p_s K H :=
  Spec.gh (Spec.mono h fun _ H2 ⟨r0, hv, H0, hg, hk⟩ => ⟨H0, hg, r0, hv, hk⟩)
def c_law03_stands (C : Ctx) (p_a : Sl) (p_b : Sl) (K : Int → Heap → Prop) (H : Heap) : Prop :=
  Spec Try.prog C 10 [slv p_a, slv p_b] H (fun v H2 => ∃ (r0 : Int), v = .int .i64 r0 ∧ K r0 H2)
theorem c_law03_stands.mono {C : Ctx} {p_a : Sl} {p_b : Sl} {K K2 : Int → Heap → Prop} {H : Heap} (h : c_law03_stands C p_a p_b K H) (hk : ∀ r0 H2, K r0 H2 → K2 r0 H2) : c_law03_stands C p_a p_b K2 H :=
  Spec.mono h fun _ H2 ⟨r0, hv, h2⟩ => ⟨r0, hv, hk r0 H2 h2⟩
theorem c_law03_stands.gh {C : Ctx} {p_a : Sl} {p_b : Sl} {K : Int → Heap → Prop} {H : Heap} (h : c_law03_stands C p_a p_b (fun r0 H2 => ∃ H0, Gh C H2 H0 ∧ K r0 H0) H) : c_law03_stands C p_a p_b K H :=
  Spec.gh (Spec.mono h fun _ H2 ⟨r0, hv, H0, hg, hk⟩ => ⟨H0, hg, r0, hv, hk⟩)
def c_code_Flag (C : Ctx) (p_b : Sl) (p_v : Bool) (K : Sl → Heap → Prop) (H : Heap) : Prop :=
  Spec Try.prog C 11 [slv p_b, .bool p_v] H (fun v H2 => ∃ (r0 : Sl), v = slv r0 ∧ K r0 H2)
theorem c_code_Flag.mono {C : Ctx} {p_b : Sl} {p_v : Bool} {K K2 : Sl → Heap → Prop} {H : Heap} (h : c_code_Flag C p_b p_v K H) (hk : ∀ r0 H2, K r0 H2 → K2 r0 H2) : c_code_Flag C p_b p_v K2 H :=
  Spec.mono h fun _ H2 ⟨r0, hv, h2⟩ => ⟨r0, hv, hk r0 H2 h2⟩
theorem c_code_Flag.gh {C : Ctx} {p_b : Sl} {p_v : Bool} {K : Sl → Heap → Prop} {H : Heap} (h : c_code_Flag C p_b p_v (fun r0 H2 => ∃ H0, Gh C H2 H0 ∧ K r0 H0) H) : c_code_Flag C p_b p_v K H :=
  Spec.gh (Spec.mono h fun _ H2 ⟨r0, hv, H0, hg, hk⟩ => ⟨H0, hg, r0, hv, hk⟩)
def c_code_NewReader (C : Ctx) (p_b : Sl) (K : Option (Nat × Nat) → Heap → Prop) (H : Heap) : Prop :=
  Spec Try.prog C 12 [slv p_b] H (fun v H2 => ∃ (r0 : Option (Nat × Nat)), v = pv r0 ∧ K r0 H2)
theorem c_code_NewReader.mono {C : Ctx} {p_b : Sl} {K K2 : Option (Nat × Nat) → Heap → Prop} {H : Heap} (h : c_code_NewReader C p_b K H) (hk : ∀ r0 H2, K r0 H2 → K2 r0 H2) : c_code_NewReader C p_b K2 H :=
  Spec.mono h fun _ H2 ⟨r0, hv, h2⟩ => ⟨r0, hv, hk r0 H2 h2⟩
theorem c_code_NewReader.gh {C : Ctx} {p_b : Sl} {K : Option (Nat × Nat) → Heap → Prop} {H : Heap} (h : c_code_NewReader C p_b (fun r0 H2 => ∃ H0, Gh C H2 H0 ∧ K r0 H0) H) : c_code_NewReader C p_b K H :=
  Spec.gh (Spec.mono h fun _ H2 ⟨r0, hv, H0, hg, hk⟩ => ⟨H0, hg, r0, hv, hk⟩)
def c_code_Reader_Count (C : Ctx) (p_r : Option (Nat × Nat)) (p_most : Int) (K : Int → Heap → Prop) (H : Heap) : Prop :=
  Spec Try.prog C 13 [pv p_r, .int .i64 p_most] H (fun v H2 => ∃ (r0 : Int), v = .int .i64 r0 ∧ K r0 H2)
theorem c_code_Reader_Count.mono {C : Ctx} {p_r : Option (Nat × Nat)} {p_most : Int} {K K2 : Int → Heap → Prop} {H : Heap} (h : c_code_Reader_Count C p_r p_most K H) (hk : ∀ r0 H2, K r0 H2 → K2 r0 H2) : c_code_Reader_Count C p_r p_most K2 H :=
  Spec.mono h fun _ H2 ⟨r0, hv, h2⟩ => ⟨r0, hv, hk r0 H2 h2⟩
theorem c_code_Reader_Count.gh {C : Ctx} {p_r : Option (Nat × Nat)} {p_most : Int} {K : Int → Heap → Prop} {H : Heap} (h : c_code_Reader_Count C p_r p_most (fun r0 H2 => ∃ H0, Gh C H2 H0 ∧ K r0 H0) H) : c_code_Reader_Count C p_r p_most K H :=
  Spec.gh (Spec.mono h fun _ H2 ⟨r0, hv, H0, hg, hk⟩ => ⟨H0, hg, r0, hv, hk⟩)
def c_code_Reader_Num (C : Ctx) (p_r : Option (Nat × Nat)) (K : Int → Heap → Prop) (H : Heap) : Prop :=
  Spec Try.prog C 14 [pv p_r] H (fun v H2 => ∃ (r0 : Int), v = .int .i64 r0 ∧ K r0 H2)
theorem c_code_Reader_Num.mono {C : Ctx} {p_r : Option (Nat × Nat)} {K K2 : Int → Heap → Prop} {H : Heap} (h : c_code_Reader_Num C p_r K H) (hk : ∀ r0 H2, K r0 H2 → K2 r0 H2) : c_code_Reader_Num C p_r K2 H :=
  Spec.mono h fun _ H2 ⟨r0, hv, h2⟩ => ⟨r0, hv, hk r0 H2 h2⟩
theorem c_code_Reader_Num.gh {C : Ctx} {p_r : Option (Nat × Nat)} {K : Int → Heap → Prop} {H : Heap} (h : c_code_Reader_Num C p_r (fun r0 H2 => ∃ H0, Gh C H2 H0 ∧ K r0 H0) H) : c_code_Reader_Num C p_r K H :=
  Spec.gh (Spec.mono h fun _ H2 ⟨r0, hv, H0, hg, hk⟩ => ⟨H0, hg, r0, hv, hk⟩)
def c_code_Reader_Str (C : Ctx) (p_r : Option (Nat × Nat)) (p_most : Int) (K : Str → Heap → Prop) (H : Heap) : Prop :=
  Spec Try.prog C 15 [pv p_r, .int .i64 p_most] H (fun v H2 => ∃ (r0 : Str), v = sv r0 ∧ K r0 H2)
theorem c_code_Reader_Str.mono {C : Ctx} {p_r : Option (Nat × Nat)} {p_most : Int} {K K2 : Str → Heap → Prop} {H : Heap} (h : c_code_Reader_Str C p_r p_most K H) (hk : ∀ r0 H2, K r0 H2 → K2 r0 H2) : c_code_Reader_Str C p_r p_most K2 H :=
  Spec.mono h fun _ H2 ⟨r0, hv, h2⟩ => ⟨r0, hv, hk r0 H2 h2⟩
theorem c_code_Reader_Str.gh {C : Ctx} {p_r : Option (Nat × Nat)} {p_most : Int} {K : Str → Heap → Prop} {H : Heap} (h : c_code_Reader_Str C p_r p_most (fun r0 H2 => ∃ H0, Gh C H2 H0 ∧ K r0 H0) H) : c_code_Reader_Str C p_r p_most K H :=
  Spec.gh (Spec.mono h fun _ H2 ⟨r0, hv, H0, hg, hk⟩ => ⟨H0, hg, r0, hv, hk⟩)
def c_code_Reader_Done (C : Ctx) (p_r : Option (Nat × Nat)) (K : Bool → Heap → Prop) (H : Heap) : Prop :=
  Spec Try.prog C 16 [pv p_r] H (fun v H2 => ∃ (r0 : Bool), v = .bool r0 ∧ K r0 H2)
theorem c_code_Reader_Done.mono {C : Ctx} {p_r : Option (Nat × Nat)} {K K2 : Bool → Heap → Prop} {H : Heap} (h : c_code_Reader_Done C p_r K H) (hk : ∀ r0 H2, K r0 H2 → K2 r0 H2) : c_code_Reader_Done C p_r K2 H :=
  Spec.mono h fun _ H2 ⟨r0, hv, h2⟩ => ⟨r0, hv, hk r0 H2 h2⟩
theorem c_code_Reader_Done.gh {C : Ctx} {p_r : Option (Nat × Nat)} {K : Bool → Heap → Prop} {H : Heap} (h : c_code_Reader_Done C p_r (fun r0 H2 => ∃ H0, Gh C H2 H0 ∧ K r0 H0) H) : c_code_Reader_Done C p_r K H :=
  Spec.gh (Spec.mono h fun _ H2 ⟨r0, hv, H0, hg, hk⟩ => ⟨H0, hg, r0, hv, hk⟩)
def c_code_Reader_Flag (C : Ctx) (p_r : Option (Nat × Nat)) (K : Bool → Heap → Prop) (H : Heap) : Prop :=
  Spec Try.prog C 17 [pv p_r] H (fun v H2 => ∃ (r0 : Bool), v = .bool r0 ∧ K r0 H2)
theorem c_code_Reader_Flag.mono {C : Ctx} {p_r : Option (Nat × Nat)} {K K2 : Bool → Heap → Prop} {H : Heap} (h : c_code_Reader_Flag C p_r K H) (hk : ∀ r0 H2, K r0 H2 → K2 r0 H2) : c_code_Reader_Flag C p_r K2 H :=
  Spec.mono h fun _ H2 ⟨r0, hv, h2⟩ => ⟨r0, hv, hk r0 H2 h2⟩
theorem c_code_Reader_Flag.gh {C : Ctx} {p_r : Option (Nat × Nat)} {K : Bool → Heap → Prop} {H : Heap} (h : c_code_Reader_Flag C p_r (fun r0 H2 => ∃ H0, Gh C H2 H0 ∧ K r0 H0) H) : c_code_Reader_Flag C p_r K H :=
  Spec.gh (Spec.mono h fun _ H2 ⟨r0, hv, H0, hg, hk⟩ => ⟨H0, hg, r0, hv, hk⟩)
def c_code_behind (C : Ctx) (p_b : Sl) (K : Option (Nat × Nat) → Heap → Prop) (H : Heap) : Prop :=
  Spec Try.prog C 18 [slv p_b] H (fun v H2 => ∃ (r0 : Option (Nat × Nat)), v = pv r0 ∧ K r0 H2)
theorem c_code_behind.mono {C : Ctx} {p_b : Sl} {K K2 : Option (Nat × Nat) → Heap → Prop} {H : Heap} (h : c_code_behind C p_b K H) (hk : ∀ r0 H2, K r0 H2 → K2 r0 H2) : c_code_behind C p_b K2 H :=
  Spec.mono h fun _ H2 ⟨r0, hv, h2⟩ => ⟨r0, hv, hk r0 H2 h2⟩
theorem c_code_behind.gh {C : Ctx} {p_b : Sl} {K : Option (Nat × Nat) → Heap → Prop} {H : Heap} (h : c_code_behind C p_b (fun r0 H2 => ∃ H0, Gh C H2 H0 ∧ K r0 H0) H) : c_code_behind C p_b K H :=
  Spec.gh (Spec.mono h fun _ H2 ⟨r0, hv, H0, hg, hk⟩ => ⟨H0, hg, r0, hv, hk⟩)
def c_code_pen_num (C : Ctx) (p_p : Option (Nat × Nat)) (p_n : Int) (K : Heap → Prop) (H : Heap) : Prop :=
  Spec Try.prog C 19 [pv p_p, .int .i64 p_n] H (fun v H2 => v = .tuple #[] ∧ K H2)
theorem c_code_pen_num.mono {C : Ctx} {p_p : Option (Nat × Nat)} {p_n : Int} {K K2 : Heap → Prop} {H : Heap} (h : c_code_pen_num C p_p p_n K H) (hk : ∀  H2, K  H2 → K2  H2) : c_code_pen_num C p_p p_n K2 H :=
  Spec.mono h fun _ H2 ⟨hv, h2⟩ => ⟨hv, hk H2 h2⟩
theorem c_code_pen_num.gh {C : Ctx} {p_p : Option (Nat × Nat)} {p_n : Int} {K : Heap → Prop} {H : Heap} (h : c_code_pen_num C p_p p_n (fun  H2 => ∃ H0, Gh C H2 H0 ∧ K  H0) H) : c_code_pen_num C p_p p_n K H :=
  Spec.gh (Spec.mono h fun _ H2 ⟨hv, H0, hg, hk⟩ => ⟨H0, hg, hv, hk⟩)
def c_code_pen_number (C : Ctx) (p_p : Option (Nat × Nat)) (p_first : Int) (p_u : Int) (K : Heap → Prop) (H : Heap) : Prop :=
  Spec Try.prog C 20 [pv p_p, .int .u8 p_first, .int .u64 p_u] H (fun v H2 => v = .tuple #[] ∧ K H2)
theorem c_code_pen_number.mono {C : Ctx} {p_p : Option (Nat × Nat)} {p_first : Int} {p_u : Int} {K K2 : Heap → Prop} {H : Heap} (h : c_code_pen_number C p_p p_first p_u K H) (hk : ∀  H2, K  H2 → K2  H2) : c_code_pen_number C p_p p_first p_u K2 H :=
  Spec.mono h fun _ H2 ⟨hv, h2⟩ => ⟨hv, hk H2 h2⟩
theorem c_code_pen_number.gh {C : Ctx} {p_p : Option (Nat × Nat)} {p_first : Int} {p_u : Int} {K : Heap → Prop} {H : Heap} (h : c_code_pen_number C p_p p_first p_u (fun  H2 => ∃ H0, Gh C H2 H0 ∧ K  H0) H) : c_code_pen_number C p_p p_first p_u K H :=
  Spec.gh (Spec.mono h fun _ H2 ⟨hv, H0, hg, hk⟩ => ⟨H0, hg, hv, hk⟩)
def c_code_pen_text (C : Ctx) (p_p : Option (Nat × Nat)) (p_s : Str) (K : Heap → Prop) (H : Heap) : Prop :=
  Spec Try.prog C 21 [pv p_p, sv p_s] H (fun v H2 => v = .tuple #[] ∧ K H2)
theorem c_code_pen_text.mono {C : Ctx} {p_p : Option (Nat × Nat)} {p_s : Str} {K K2 : Heap → Prop} {H : Heap} (h : c_code_pen_text C p_p p_s K H) (hk : ∀  H2, K  H2 → K2  H2) : c_code_pen_text C p_p p_s K2 H :=
  Spec.mono h fun _ H2 ⟨hv, h2⟩ => ⟨hv, hk H2 h2⟩
theorem c_code_pen_text.gh {C : Ctx} {p_p : Option (Nat × Nat)} {p_s : Str} {K : Heap → Prop} {H : Heap} (h : c_code_pen_text C p_p p_s (fun  H2 => ∃ H0, Gh C H2 H0 ∧ K  H0) H) : c_code_pen_text C p_p p_s K H :=
  Spec.gh (Spec.mono h fun _ H2 ⟨hv, H0, hg, hk⟩ => ⟨H0, hg, hv, hk⟩)
def c_code_pen_put (C : Ctx) (p_p : Option (Nat × Nat)) (p_l : Sl) (K : Heap → Prop) (H : Heap) : Prop :=
  Spec Try.prog C 22 [pv p_p, slv p_l] H (fun v H2 => v = .tuple #[] ∧ K H2)
theorem c_code_pen_put.mono {C : Ctx} {p_p : Option (Nat × Nat)} {p_l : Sl} {K K2 : Heap → Prop} {H : Heap} (h : c_code_pen_put C p_p p_l K H) (hk : ∀  H2, K  H2 → K2  H2) : c_code_pen_put C p_p p_l K2 H :=
  Spec.mono h fun _ H2 ⟨hv, h2⟩ => ⟨hv, hk H2 h2⟩
theorem c_code_pen_put.gh {C : Ctx} {p_p : Option (Nat × Nat)} {p_l : Sl} {K : Heap → Prop} {H : Heap} (h : c_code_pen_put C p_p p_l (fun  H2 => ∃ H0, Gh C H2 H0 ∧ K  H0) H) : c_code_pen_put C p_p p_l K H :=
  Spec.gh (Spec.mono h fun _ H2 ⟨hv, H0, hg, hk⟩ => ⟨H0, hg, hv, hk⟩)
def c_slices_Clone_byte_byte (C : Ctx) (p_s : Sl) (K : Sl → Heap → Prop) (H : Heap) : Prop :=
  Spec Try.prog C 23 [slv p_s] H (fun v H2 => ∃ (r0 : Sl), v = slv r0 ∧ K r0 H2)
theorem c_slices_Clone_byte_byte.mono {C : Ctx} {p_s : Sl} {K K2 : Sl → Heap → Prop} {H : Heap} (h : c_slices_Clone_byte_byte C p_s K H) (hk : ∀ r0 H2, K r0 H2 → K2 r0 H2) : c_slices_Clone_byte_byte C p_s K2 H :=
  Spec.mono h fun _ H2 ⟨r0, hv, h2⟩ => ⟨r0, hv, hk r0 H2 h2⟩
theorem c_slices_Clone_byte_byte.gh {C : Ctx} {p_s : Sl} {K : Sl → Heap → Prop} {H : Heap} (h : c_slices_Clone_byte_byte C p_s (fun r0 H2 => ∃ H0, Gh C H2 H0 ∧ K r0 H0) H) : c_slices_Clone_byte_byte C p_s K H :=
  Spec.gh (Spec.mono h fun _ H2 ⟨r0, hv, H0, hg, hk⟩ => ⟨H0, hg, r0, hv, hk⟩)
def c_code_Reader_number (C : Ctx) (p_r : Option (Nat × Nat)) (p_k : Int) (p_most : Int) (K : Int → Heap → Prop) (H : Heap) : Prop :=
  Spec Try.prog C 24 [pv p_r, .int .i64 p_k, .int .i64 p_most] H (fun v H2 => ∃ (r0 : Int), v = .int .u64 r0 ∧ K r0 H2)
theorem c_code_Reader_number.mono {C : Ctx} {p_r : Option (Nat × Nat)} {p_k : Int} {p_most : Int} {K K2 : Int → Heap → Prop} {H : Heap} (h : c_code_Reader_number C p_r p_k p_most K H) (hk : ∀ r0 H2, K r0 H2 → K2 r0 H2) : c_code_Reader_number C p_r p_k p_most K2 H :=
  Spec.mono h fun _ H2 ⟨r0, hv, h2⟩ => ⟨r0, hv, hk r0 H2 h2⟩
theorem c_code_Reader_number.gh {C : Ctx} {p_r : Option (Nat × Nat)} {p_k : Int} {p_most : Int} {K : Int → Heap → Prop} {H : Heap} (h : c_code_Reader_number C p_r p_k p_most (fun r0 H2 => ∃ H0, Gh C H2 H0 ∧ K r0 H0) H) : c_code_Reader_number C p_r p_k p_most K H :=
  Spec.gh (Spec.mono h fun _ H2 ⟨r0, hv, H0, hg, hk⟩ => ⟨H0, hg, r0, hv, hk⟩)
def c_code_Reader_next (C : Ctx) (p_r : Option (Nat × Nat)) (K : Int → Heap → Prop) (H : Heap) : Prop :=
  Spec Try.prog C 25 [pv p_r] H (fun v H2 => ∃ (r0 : Int), v = .int .u8 r0 ∧ K r0 H2)
theorem c_code_Reader_next.mono {C : Ctx} {p_r : Option (Nat × Nat)} {K K2 : Int → Heap → Prop} {H : Heap} (h : c_code_Reader_next C p_r K H) (hk : ∀ r0 H2, K r0 H2 → K2 r0 H2) : c_code_Reader_next C p_r K2 H :=
  Spec.mono h fun _ H2 ⟨r0, hv, h2⟩ => ⟨r0, hv, hk r0 H2 h2⟩
theorem c_code_Reader_next.gh {C : Ctx} {p_r : Option (Nat × Nat)} {K : Int → Heap → Prop} {H : Heap} (h : c_code_Reader_next C p_r (fun r0 H2 => ∃ H0, Gh C H2 H0 ∧ K r0 H0) H) : c_code_Reader_next C p_r K H :=
  Spec.gh (Spec.mono h fun _ H2 ⟨r0, hv, H0, hg, hk⟩ => ⟨H0, hg, r0, hv, hk⟩)
def c_code_Reader_ask (C : Ctx) (p_r : Option (Nat × Nat)) (p_ok : Bool) (K : Bool → Heap → Prop) (H : Heap) : Prop :=
  Spec Try.prog C 26 [pv p_r, .bool p_ok] H (fun v H2 => ∃ (r0 : Bool), v = .bool r0 ∧ K r0 H2)
theorem c_code_Reader_ask.mono {C : Ctx} {p_r : Option (Nat × Nat)} {p_ok : Bool} {K K2 : Bool → Heap → Prop} {H : Heap} (h : c_code_Reader_ask C p_r p_ok K H) (hk : ∀ r0 H2, K r0 H2 → K2 r0 H2) : c_code_Reader_ask C p_r p_ok K2 H :=
  Spec.mono h fun _ H2 ⟨r0, hv, h2⟩ => ⟨r0, hv, hk r0 H2 h2⟩
theorem c_code_Reader_ask.gh {C : Ctx} {p_r : Option (Nat × Nat)} {p_ok : Bool} {K : Bool → Heap → Prop} {H : Heap} (h : c_code_Reader_ask C p_r p_ok (fun r0 H2 => ∃ H0, Gh C H2 H0 ∧ K r0 H0) H) : c_code_Reader_ask C p_r p_ok K H :=
  Spec.gh (Spec.mono h fun _ H2 ⟨r0, hv, H0, hg, hk⟩ => ⟨H0, hg, r0, hv, hk⟩)
def c_code_Reader_flip (C : Ctx) (p_r : Option (Nat × Nat)) (p_is : Bool) (K : Heap → Prop) (H : Heap) : Prop :=
  Spec Try.prog C 27 [pv p_r, .bool p_is] H (fun v H2 => v = .tuple #[] ∧ K H2)
theorem c_code_Reader_flip.mono {C : Ctx} {p_r : Option (Nat × Nat)} {p_is : Bool} {K K2 : Heap → Prop} {H : Heap} (h : c_code_Reader_flip C p_r p_is K H) (hk : ∀  H2, K  H2 → K2  H2) : c_code_Reader_flip C p_r p_is K2 H :=
  Spec.mono h fun _ H2 ⟨hv, h2⟩ => ⟨hv, hk H2 h2⟩
theorem c_code_Reader_flip.gh {C : Ctx} {p_r : Option (Nat × Nat)} {p_is : Bool} {K : Heap → Prop} {H : Heap} (h : c_code_Reader_flip C p_r p_is (fun  H2 => ∃ H0, Gh C H2 H0 ∧ K  H0) H) : c_code_Reader_flip C p_r p_is K H :=
  Spec.gh (Spec.mono h fun _ H2 ⟨hv, H0, hg, hk⟩ => ⟨H0, hg, hv, hk⟩)
def c_code_Reader_OK (C : Ctx) (p_r : Option (Nat × Nat)) (K : Bool → Heap → Prop) (H : Heap) : Prop :=
  Spec Try.prog C 28 [pv p_r] H (fun v H2 => ∃ (r0 : Bool), v = .bool r0 ∧ K r0 H2)
theorem c_code_Reader_OK.mono {C : Ctx} {p_r : Option (Nat × Nat)} {K K2 : Bool → Heap → Prop} {H : Heap} (h : c_code_Reader_OK C p_r K H) (hk : ∀ r0 H2, K r0 H2 → K2 r0 H2) : c_code_Reader_OK C p_r K2 H :=
  Spec.mono h fun _ H2 ⟨r0, hv, h2⟩ => ⟨r0, hv, hk r0 H2 h2⟩
theorem c_code_Reader_OK.gh {C : Ctx} {p_r : Option (Nat × Nat)} {K : Bool → Heap → Prop} {H : Heap} (h : c_code_Reader_OK C p_r (fun r0 H2 => ∃ H0, Gh C H2 H0 ∧ K r0 H0) H) : c_code_Reader_OK C p_r K H :=
  Spec.gh (Spec.mono h fun _ H2 ⟨r0, hv, H0, hg, hk⟩ => ⟨H0, hg, r0, hv, hk⟩)
def c_code_Reader_Left (C : Ctx) (p_r : Option (Nat × Nat)) (K : Int → Heap → Prop) (H : Heap) : Prop :=
  Spec Try.prog C 29 [pv p_r] H (fun v H2 => ∃ (r0 : Int), v = .int .i64 r0 ∧ K r0 H2)
theorem c_code_Reader_Left.mono {C : Ctx} {p_r : Option (Nat × Nat)} {K K2 : Int → Heap → Prop} {H : Heap} (h : c_code_Reader_Left C p_r K H) (hk : ∀ r0 H2, K r0 H2 → K2 r0 H2) : c_code_Reader_Left C p_r K2 H :=
  Spec.mono h fun _ H2 ⟨r0, hv, h2⟩ => ⟨r0, hv, hk r0 H2 h2⟩
theorem c_code_Reader_Left.gh {C : Ctx} {p_r : Option (Nat × Nat)} {K : Int → Heap → Prop} {H : Heap} (h : c_code_Reader_Left C p_r (fun r0 H2 => ∃ H0, Gh C H2 H0 ∧ K r0 H0) H) : c_code_Reader_Left C p_r K H :=
  Spec.gh (Spec.mono h fun _ H2 ⟨r0, hv, H0, hg, hk⟩ => ⟨H0, hg, r0, hv, hk⟩)
def c_code_pen_flip (C : Ctx) (p_p : Option (Nat × Nat)) (p_is : Bool) (K : Heap → Prop) (H : Heap) : Prop :=
  Spec Try.prog C 30 [pv p_p, .bool p_is] H (fun v H2 => v = .tuple #[] ∧ K H2)
theorem c_code_pen_flip.mono {C : Ctx} {p_p : Option (Nat × Nat)} {p_is : Bool} {K K2 : Heap → Prop} {H : Heap} (h : c_code_pen_flip C p_p p_is K H) (hk : ∀  H2, K  H2 → K2  H2) : c_code_pen_flip C p_p p_is K2 H :=
  Spec.mono h fun _ H2 ⟨hv, h2⟩ => ⟨hv, hk H2 h2⟩
theorem c_code_pen_flip.gh {C : Ctx} {p_p : Option (Nat × Nat)} {p_is : Bool} {K : Heap → Prop} {H : Heap} (h : c_code_pen_flip C p_p p_is (fun  H2 => ∃ H0, Gh C H2 H0 ∧ K  H0) H) : c_code_pen_flip C p_p p_is K H :=
  Spec.gh (Spec.mono h fun _ H2 ⟨hv, H0, hg, hk⟩ => ⟨H0, hg, hv, hk⟩)
def c_math_bits_Len64 (C : Ctx) (p_x : Int) (K : Int → Heap → Prop) (H : Heap) : Prop :=
  Spec Try.prog C 31 [.int .u64 p_x] H (fun v H2 => ∃ (r0 : Int), v = .int .i64 r0 ∧ K r0 H2)
theorem c_math_bits_Len64.mono {C : Ctx} {p_x : Int} {K K2 : Int → Heap → Prop} {H : Heap} (h : c_math_bits_Len64 C p_x K H) (hk : ∀ r0 H2, K r0 H2 → K2 r0 H2) : c_math_bits_Len64 C p_x K2 H :=
  Spec.mono h fun _ H2 ⟨r0, hv, h2⟩ => ⟨r0, hv, hk r0 H2 h2⟩
theorem c_math_bits_Len64.gh {C : Ctx} {p_x : Int} {K : Int → Heap → Prop} {H : Heap} (h : c_math_bits_Len64 C p_x (fun r0 H2 => ∃ H0, Gh C H2 H0 ∧ K r0 H0) H) : c_math_bits_Len64 C p_x K H :=
  Spec.gh (Spec.mono h fun _ H2 ⟨r0, hv, H0, hg, hk⟩ => ⟨H0, hg, r0, hv, hk⟩)



def sh_law03_CodePlain (C : Ctx) (p_n : Int) (p_m : Int) (p_c : Int) (p_d : Int) (p_s : Str) (p_t : Str) (p_x : Sl) (p_y : Sl) (K : Bool → Heap → Prop) (H : Heap) : Prop :=
  jn (α := Bool) (fun b4 H10 =>
 ift b4
 (c_law03_works C (fun r12 H13 =>
 K r12 H13) H10)
 (c_code_Num C Sl.nil p_n (fun r14 H15 =>
 c_law03_behind C r14 p_x (fun r16 H17 =>
 c_code_Num C Sl.nil p_m (fun r18 H19 =>
 c_law03_behind C r18 p_y (fun r20 H21 =>
 c_code_Count C Sl.nil (bAnd .i64 p_c 2147483647) (fun r22 H23 =>
 c_law03_behind C r22 p_x (fun r24 H25 =>
 c_code_Count C Sl.nil (bAnd .i64 p_d 2147483647) (fun r26 H27 =>
 c_law03_behind C r26 p_y (fun r28 H29 =>
 c_code_Str C Sl.nil p_s (fun r30 H31 =>
 c_law03_behind C r30 p_x (fun r32 H33 =>
 c_code_Str C Sl.nil p_t (fun r34 H35 =>
 c_law03_behind C r34 p_y (fun r36 H37 =>
 jn (α := Bool) (fun b38 H44 =>
 jn (α := Bool) (fun b45 H56 =>
 jn (α := Bool) (fun b57 H68 =>
 K b57 H68)
 (fun J58 => ift b45
 (jn (α := Bool) (fun b61 H67 =>
 J58 b61 H67)
 (fun J62 => ift (p_s == p_t)
 (J62 true H56)
 (c_law03_stands C r32 r36 (fun r65 H66 =>
 J62 ((decide ((r65 : Int) < 0)) == (slt p_s p_t)) H66) H56)))
 (J58 false H56)))
 (fun J46 => ift b38
 (jn (α := Bool) (fun b49 H55 =>
 J46 b49 H55)
 (fun J50 => ift (((bAnd .i64 p_c 2147483647) : Int) == (bAnd .i64 p_d 2147483647))
 (J50 true H44)
 (c_law03_stands C r24 r28 (fun r53 H54 =>
 J50 ((decide ((r53 : Int) < 0)) == (decide (((bAnd .i64 p_c 2147483647) : Int) < (bAnd .i64 p_d 2147483647)))) H54) H44)))
 (J46 false H44)))
 (fun J39 => ift ((p_n : Int) == p_m)
 (J39 true H37)
 (c_law03_stands C r16 r20 (fun r42 H43 =>
 J39 ((decide ((r42 : Int) < 0)) == (decide ((p_n : Int) < p_m))) H43) H37))) H35) H33) H31) H29) H27) H25) H23) H21) H19) H17) H15) H10))
 (fun J5 => ift ((((decide (((List.length p_s : Int) : Int) > 3000)) || (decide (((List.length p_t : Int) : Int) > 3000))) || (decide (((Sl.len p_x : Int) : Int) > 3000))) || (decide (((Sl.len p_y : Int) : Int) > 3000)))
 (J5 true H)
 (c_law03_works C (fun r8 H9 =>
 J5 (!r8) H9) H))

theorem ad_law03_CodePlain (C : Ctx) (p_n : Int) (p_m : Int) (p_c : Int) (p_d : Int) (p_s : Str) (p_t : Str) (p_x : Sl) (p_y : Sl) (K : Bool → Heap → Prop) (H : Heap) (h : sh_law03_CodePlain C p_n p_m p_c p_d p_s p_t p_x p_y K H) : c_law03_CodePlain C p_n p_m p_c p_d p_s p_t p_x p_y K H := by
  refine Spec.enter Try.func3 rfl Try.ntmps3 rfl ?_
  refine GC.sub [(0, .int .i64 p_n), (1, .int .i64 p_m), (2, .int .i64 p_c), (3, .int .i64 p_d), (4, sv p_s), (5, sv p_t), (6, slv p_x), (7, slv p_y)] ⟨rfl, rfl, rfl, rfl, rfl, rfl, rfl, rfl, trivial⟩ ?_
  refine GC.seq ?_
  refine GC.region ?_
  refine GL.val trivial rfl (OV.assign (v := .bool false) rfl) ?_
  refine GL.nil ?_
  refine GC.seq ?_
  refine GC.seq ?_
  refine GC.region ?_
  refine GL.val trivial rfl (OV.move (v := sv p_s) rfl) ?_
  refine GL.val trivial rfl (OV.lenStr (s := p_s) rfl rfl) ?_
  refine GL.val trivial rfl (OV.ibin (v := .bool (decide (((List.length p_s : Int) : Int) > 3000))) rfl rfl rfl) ?_
  refine GL.val trivial rfl (OV.move (v := .bool (decide (((List.length p_s : Int) : Int) > 3000))) rfl) ?_
  refine GL.cut0 4 [(30, .bool ((decide (((List.length p_s : Int) : Int) > 3000)) || (decide (((List.length p_t : Int) : Int) > 3000)))), (0, .int .i64 p_n), (1, .int .i64 p_m), (2, .int .i64 p_c), (3, .int .i64 p_d), (4, sv p_s), (5, sv p_t), (6, slv p_x), (7, slv p_y)] ?_ ?_
  · rcases Bool.eq_false_or_eq_true (decide (((List.length p_s : Int) : Int) > 3000)) with hc1 | hc1
    · skip
      refine GL.skip ⟨_, rfl, .inl ⟨_, rfl, hc1⟩⟩ rfl ?_
      refine GL.skip ⟨_, rfl, .inl ⟨_, rfl, hc1⟩⟩ rfl ?_
      refine GL.skip ⟨_, rfl, .inl ⟨_, rfl, hc1⟩⟩ rfl ?_
      refine GL.val trivial rfl (OV.pickT (b := decide (((List.length p_s : Int) : Int) > 3000)) (v := .bool true) rfl hc1 rfl) ?_
      exact GL.jump0 (fun _ _ h => h) () rfl ⟨(by rw [hc1]; rfl), rfl, rfl, rfl, rfl, rfl, rfl, rfl, rfl, trivial⟩
    · skip
      refine GL.val ⟨_, _, rfl, rfl, hc1⟩ rfl (OV.move (v := sv p_t) rfl) ?_
      refine GL.val ⟨_, _, rfl, rfl, hc1⟩ rfl (OV.lenStr (s := p_t) rfl rfl) ?_
      refine GL.val ⟨_, _, rfl, rfl, hc1⟩ rfl (OV.ibin (v := .bool (decide (((List.length p_t : Int) : Int) > 3000))) rfl rfl rfl) ?_
      refine GL.val trivial rfl (OV.pickF (b := decide (((List.length p_s : Int) : Int) > 3000)) (v := .bool (decide (((List.length p_t : Int) : Int) > 3000))) rfl hc1 rfl) ?_
      exact GL.jump0 (fun _ _ h => h) () rfl ⟨(by rw [hc1]; rfl), rfl, rfl, rfl, rfl, rfl, rfl, rfl, rfl, trivial⟩
  refine GL.val trivial rfl (OV.move (v := .bool ((decide (((List.length p_s : Int) : Int) > 3000)) || (decide (((List.length p_t : Int) : Int) > 3000)))) rfl) ?_
  refine GL.cut0 4 [(35, .bool (((decide (((List.length p_s : Int) : Int) > 3000)) || (decide (((List.length p_t : Int) : Int) > 3000))) || (decide (((Sl.len p_x : Int) : Int) > 3000)))), (0, .int .i64 p_n), (1, .int .i64 p_m), (2, .int .i64 p_c), (3, .int .i64 p_d), (4, sv p_s), (5, sv p_t), (6, slv p_x), (7, slv p_y)] ?_ ?_
  · rcases Bool.eq_false_or_eq_true ((decide (((List.length p_s : Int) : Int) > 3000)) || (decide (((List.length p_t : Int) : Int) > 3000))) with hc2 | hc2
    · skip
      refine GL.skip ⟨_, rfl, .inl ⟨_, rfl, hc2⟩⟩ rfl ?_
      refine GL.skip ⟨_, rfl, .inl ⟨_, rfl, hc2⟩⟩ rfl ?_
      refine GL.skip ⟨_, rfl, .inl ⟨_, rfl, hc2⟩⟩ rfl ?_
      refine GL.val trivial rfl (OV.pickT (b := (decide (((List.length p_s : Int) : Int) > 3000)) || (decide (((List.length p_t : Int) : Int) > 3000))) (v := .bool true) rfl hc2 rfl) ?_
      exact GL.jump0 (fun _ _ h => h) () rfl ⟨(by rw [hc2]; rfl), rfl, rfl, rfl, rfl, rfl, rfl, rfl, rfl, trivial⟩
    · skip
      refine GL.val ⟨_, _, rfl, rfl, hc2⟩ rfl (OV.move (v := slv p_x) rfl) ?_
      refine GL.val ⟨_, _, rfl, rfl, hc2⟩ rfl (OV.lenSl (s := p_x) rfl rfl) ?_
      refine GL.val ⟨_, _, rfl, rfl, hc2⟩ rfl (OV.ibin (v := .bool (decide (((Sl.len p_x : Int) : Int) > 3000))) rfl rfl rfl) ?_
      refine GL.val trivial rfl (OV.pickF (b := (decide (((List.length p_s : Int) : Int) > 3000)) || (decide (((List.length p_t : Int) : Int) > 3000))) (v := .bool (decide (((Sl.len p_x : Int) : Int) > 3000))) rfl hc2 rfl) ?_
      exact GL.jump0 (fun _ _ h => h) () rfl ⟨(by rw [hc2]; rfl), rfl, rfl, rfl, rfl, rfl, rfl, rfl, rfl, trivial⟩
  refine GL.val trivial rfl (OV.move (v := .bool (((decide (((List.length p_s : Int) : Int) > 3000)) || (decide (((List.length p_t : Int) : Int) > 3000))) || (decide (((Sl.len p_x : Int) : Int) > 3000)))) rfl) ?_
  refine GL.cut0 4 [(40, .bool ((((decide (((List.length p_s : Int) : Int) > 3000)) || (decide (((List.length p_t : Int) : Int) > 3000))) || (decide (((Sl.len p_x : Int) : Int) > 3000))) || (decide (((Sl.len p_y : Int) : Int) > 3000)))), (0, .int .i64 p_n), (1, .int .i64 p_m), (2, .int .i64 p_c), (3, .int .i64 p_d), (4, sv p_s), (5, sv p_t), (6, slv p_x), (7, slv p_y)] ?_ ?_
  · rcases Bool.eq_false_or_eq_true (((decide (((List.length p_s : Int) : Int) > 3000)) || (decide (((List.length p_t : Int) : Int) > 3000))) || (decide (((Sl.len p_x : Int) : Int) > 3000))) with hc3 | hc3
    · skip
      refine GL.skip ⟨_, rfl, .inl ⟨_, rfl, hc3⟩⟩ rfl ?_
      refine GL.skip ⟨_, rfl, .inl ⟨_, rfl, hc3⟩⟩ rfl ?_
      refine GL.skip ⟨_, rfl, .inl ⟨_, rfl, hc3⟩⟩ rfl ?_
      refine GL.val trivial rfl (OV.pickT (b := ((decide (((List.length p_s : Int) : Int) > 3000)) || (decide (((List.length p_t : Int) : Int) > 3000))) || (decide (((Sl.len p_x : Int) : Int) > 3000))) (v := .bool true) rfl hc3 rfl) ?_
      exact GL.jump0 (fun _ _ h => h) () rfl ⟨(by rw [hc3]; rfl), rfl, rfl, rfl, rfl, rfl, rfl, rfl, rfl, trivial⟩
    · skip
      refine GL.val ⟨_, _, rfl, rfl, hc3⟩ rfl (OV.move (v := slv p_y) rfl) ?_
      refine GL.val ⟨_, _, rfl, rfl, hc3⟩ rfl (OV.lenSl (s := p_y) rfl rfl) ?_
      refine GL.val ⟨_, _, rfl, rfl, hc3⟩ rfl (OV.ibin (v := .bool (decide (((Sl.len p_y : Int) : Int) > 3000))) rfl rfl rfl) ?_
      refine GL.val trivial rfl (OV.pickF (b := ((decide (((List.length p_s : Int) : Int) > 3000)) || (decide (((List.length p_t : Int) : Int) > 3000))) || (decide (((Sl.len p_x : Int) : Int) > 3000))) (v := .bool (decide (((Sl.len p_y : Int) : Int) > 3000))) rfl hc3 rfl) ?_
      exact GL.jump0 (fun _ _ h => h) () rfl ⟨(by rw [hc3]; rfl), rfl, rfl, rfl, rfl, rfl, rfl, rfl, rfl, trivial⟩
  refine GL.val trivial rfl (OV.move (v := .bool ((((decide (((List.length p_s : Int) : Int) > 3000)) || (decide (((List.length p_t : Int) : Int) > 3000))) || (decide (((Sl.len p_x : Int) : Int) > 3000))) || (decide (((Sl.len p_y : Int) : Int) > 3000)))) rfl) ?_
  obtain ⟨J5, h, hR6⟩ := h
  refine GL.cut (α := Bool) 3 J5 (fun b4 => [(44, .bool b4), (0, .int .i64 p_n), (1, .int .i64 p_m), (2, .int .i64 p_c), (3, .int .i64 p_d), (4, sv p_s), (5, sv p_t), (6, slv p_x), (7, slv p_y)]) ?_ ?_
  · rcases Bool.eq_false_or_eq_true ((((decide (((List.length p_s : Int) : Int) > 3000)) || (decide (((List.length p_t : Int) : Int) > 3000))) || (decide (((Sl.len p_x : Int) : Int) > 3000))) || (decide (((Sl.len p_y : Int) : Int) > 3000))) with hc7 | hc7
    · skip
      replace h := And.left h hc7
      refine GL.skip ⟨_, rfl, .inl ⟨_, rfl, hc7⟩⟩ rfl ?_
      refine GL.skip ⟨_, rfl, .inl ⟨_, rfl, hc7⟩⟩ rfl ?_
      refine GL.val trivial rfl (OV.pickT (b := (((decide (((List.length p_s : Int) : Int) > 3000)) || (decide (((List.length p_t : Int) : Int) > 3000))) || (decide (((Sl.len p_x : Int) : Int) > 3000))) || (decide (((Sl.len p_y : Int) : Int) > 3000))) (v := .bool true) rfl hc7 rfl) ?_
      exact GL.jump (fun _ _ h => h) true h ⟨rfl, rfl, rfl, rfl, rfl, rfl, rfl, rfl, rfl, trivial⟩
    · skip
      replace h := And.right h hc7
      refine GL.call h ⟨_, _, rfl, rfl, hc7⟩ rfl ok_law03_works (vs := []) rfl ?_
      rintro _ H9 ⟨r8, rfl, h⟩
      refine GL.val ⟨_, _, rfl, rfl, hc7⟩ rfl (OV.not rfl) ?_
      refine GL.val trivial rfl (OV.pickF (b := (((decide (((List.length p_s : Int) : Int) > 3000)) || (decide (((List.length p_t : Int) : Int) > 3000))) || (decide (((Sl.len p_x : Int) : Int) > 3000))) || (decide (((Sl.len p_y : Int) : Int) > 3000))) (v := .bool (!r8)) rfl hc7 rfl) ?_
      exact GL.jump (fun _ _ h => h) (!r8) h ⟨rfl, rfl, rfl, rfl, rfl, rfl, rfl, rfl, rfl, trivial⟩
  intro b4 H10 h
  replace h := hR6 b4 H10 h
  refine GL.nil ?_
  refine GC.cond (b := b4) rfl (fun hc11 => ?_) (fun hc11 => ?_)
  · replace h := And.left h hc11
    refine GC.seq ?_
    refine GC.region ?_
    refine GL.call h trivial rfl ok_law03_works (vs := []) rfl ?_
    rintro _ H13 ⟨r12, rfl, h⟩
    refine GL.val trivial rfl (OV.assign (v := .bool r12) rfl) ?_
    refine GL.nil ?_
    exact GC.ret (fun _ _ hf hs => post_tmp1 rfl rfl hf hs ⟨r12, rfl, h⟩)
  · replace h := And.right h hc11
    refine GC.skip ?_
    refine GC.seq ?_
    refine GC.region ?_
    refine GL.val trivial rfl (OV.move (v := .int .i64 p_c) rfl) ?_
    refine GL.val trivial rfl (OV.ibin (v := .int .i64 (bAnd .i64 p_c 2147483647)) rfl rfl rfl) ?_
    refine GL.val trivial rfl (OV.move (v := .int .i64 p_d) rfl) ?_
    refine GL.val trivial rfl (OV.ibin (v := .int .i64 (bAnd .i64 p_d 2147483647)) rfl rfl rfl) ?_
    refine GL.val trivial rfl (OV.assign (v := .int .i64 (bAnd .i64 p_c 2147483647)) rfl) ?_
    refine GL.val trivial rfl (OV.assign (v := .int .i64 (bAnd .i64 p_d 2147483647)) rfl) ?_
    refine GL.nil ?_
    refine GC.seq ?_
    refine GC.region ?_
    refine GL.val trivial rfl (OV.move (v := .int .i64 p_n) rfl) ?_
    refine GL.call h trivial rfl ok_code_Num (vs := [slv Sl.nil, .int .i64 p_n]) rfl ?_
    rintro _ H15 ⟨r14, rfl, h⟩
    refine GL.val trivial rfl (OV.move (v := slv p_x) rfl) ?_
    refine GL.call h trivial rfl ok_law03_behind (vs := [slv r14, slv p_x]) rfl ?_
    rintro _ H17 ⟨r16, rfl, h⟩
    refine GL.val trivial rfl (OV.move (v := .int .i64 p_m) rfl) ?_
    refine GL.call h trivial rfl ok_code_Num (vs := [slv Sl.nil, .int .i64 p_m]) rfl ?_
    rintro _ H19 ⟨r18, rfl, h⟩
    refine GL.val trivial rfl (OV.move (v := slv p_y) rfl) ?_
    refine GL.call h trivial rfl ok_law03_behind (vs := [slv r18, slv p_y]) rfl ?_
    rintro _ H21 ⟨r20, rfl, h⟩
    refine GL.val trivial rfl (OV.assign (v := slv r16) rfl) ?_
    refine GL.val trivial rfl (OV.assign (v := slv r20) rfl) ?_
    refine GL.nil ?_
    refine GC.seq ?_
    refine GC.region ?_
    refine GL.val trivial rfl (OV.move (v := .int .i64 (bAnd .i64 p_c 2147483647)) rfl) ?_
    refine GL.call h trivial rfl ok_code_Count (vs := [slv Sl.nil, .int .i64 (bAnd .i64 p_c 2147483647)]) rfl ?_
    rintro _ H23 ⟨r22, rfl, h⟩
    refine GL.val trivial rfl (OV.move (v := slv p_x) rfl) ?_
    refine GL.call h trivial rfl ok_law03_behind (vs := [slv r22, slv p_x]) rfl ?_
    rintro _ H25 ⟨r24, rfl, h⟩
    refine GL.val trivial rfl (OV.move (v := .int .i64 (bAnd .i64 p_d 2147483647)) rfl) ?_
    refine GL.call h trivial rfl ok_code_Count (vs := [slv Sl.nil, .int .i64 (bAnd .i64 p_d 2147483647)]) rfl ?_
    rintro _ H27 ⟨r26, rfl, h⟩
    refine GL.val trivial rfl (OV.move (v := slv p_y) rfl) ?_
    refine GL.call h trivial rfl ok_law03_behind (vs := [slv r26, slv p_y]) rfl ?_
    rintro _ H29 ⟨r28, rfl, h⟩
    refine GL.val trivial rfl (OV.assign (v := slv r24) rfl) ?_
    refine GL.val trivial rfl (OV.assign (v := slv r28) rfl) ?_
    refine GL.nil ?_
    refine GC.seq ?_
    refine GC.region ?_
    refine GL.val trivial rfl (OV.move (v := sv p_s) rfl) ?_
    refine GL.call h trivial rfl ok_code_Str (vs := [slv Sl.nil, sv p_s]) rfl ?_
    rintro _ H31 ⟨r30, rfl, h⟩
    refine GL.val trivial rfl (OV.move (v := slv p_x) rfl) ?_
    refine GL.call h trivial rfl ok_law03_behind (vs := [slv r30, slv p_x]) rfl ?_
    rintro _ H33 ⟨r32, rfl, h⟩
    refine GL.val trivial rfl (OV.move (v := sv p_t) rfl) ?_
    refine GL.call h trivial rfl ok_code_Str (vs := [slv Sl.nil, sv p_t]) rfl ?_
    rintro _ H35 ⟨r34, rfl, h⟩
    refine GL.val trivial rfl (OV.move (v := slv p_y) rfl) ?_
    refine GL.call h trivial rfl ok_law03_behind (vs := [slv r34, slv p_y]) rfl ?_
    rintro _ H37 ⟨r36, rfl, h⟩
    refine GL.val trivial rfl (OV.assign (v := slv r32) rfl) ?_
    refine GL.val trivial rfl (OV.assign (v := slv r36) rfl) ?_
    refine GL.nil ?_
    refine GC.seq ?_
    refine GC.region ?_
    refine GL.val trivial rfl (OV.move (v := .int .i64 p_n) rfl) ?_
    refine GL.val trivial rfl (OV.move (v := .int .i64 p_m) rfl) ?_
    refine GL.val trivial rfl (OV.ibin (v := .bool ((p_n : Int) == p_m)) rfl rfl rfl) ?_
    refine GL.val trivial rfl (OV.move (v := .bool ((p_n : Int) == p_m)) rfl) ?_
    obtain ⟨J39, h, hR40⟩ := h
    refine GL.cut (α := Bool) 9 J39 (fun b38 => [(86, .bool b38), (2, .int .i64 (bAnd .i64 p_c 2147483647)), (3, .int .i64 (bAnd .i64 p_d 2147483647)), (4, sv p_s), (5, sv p_t), (19, slv r24), (20, slv r28), (21, slv r32), (22, slv r36)]) ?_ ?_
    · rcases Bool.eq_false_or_eq_true ((p_n : Int) == p_m) with hc41 | hc41
      · skip
        replace h := And.left h hc41
        refine GL.skip ⟨_, rfl, .inl ⟨_, rfl, hc41⟩⟩ rfl ?_
        refine GL.skip ⟨_, rfl, .inl ⟨_, rfl, hc41⟩⟩ rfl ?_
        refine GL.skip ⟨_, rfl, .inl ⟨_, rfl, hc41⟩⟩ rfl ?_
        refine GL.skip ⟨_, rfl, .inl ⟨_, rfl, hc41⟩⟩ rfl ?_
        refine GL.skip ⟨_, rfl, .inl ⟨_, rfl, hc41⟩⟩ rfl ?_
        refine GL.skip ⟨_, rfl, .inl ⟨_, rfl, hc41⟩⟩ rfl ?_
        refine GL.skip ⟨_, rfl, .inl ⟨_, rfl, hc41⟩⟩ rfl ?_
        refine GL.skip ⟨_, rfl, .inl ⟨_, rfl, hc41⟩⟩ rfl ?_
        refine GL.val trivial rfl (OV.pickT (b := (p_n : Int) == p_m) (v := .bool true) rfl hc41 rfl) ?_
        exact GL.jump (fun _ _ h => h) true h ⟨rfl, rfl, rfl, rfl, rfl, rfl, rfl, rfl, rfl, trivial⟩
      · skip
        replace h := And.right h hc41
        refine GL.val ⟨_, _, rfl, rfl, hc41⟩ rfl (OV.move (v := slv r16) rfl) ?_
        refine GL.val ⟨_, _, rfl, rfl, hc41⟩ rfl (OV.move (v := slv r20) rfl) ?_
        refine GL.call h ⟨_, _, rfl, rfl, hc41⟩ rfl ok_law03_stands (vs := [slv r16, slv r20]) rfl ?_
        rintro _ H43 ⟨r42, rfl, h⟩
        refine GL.val ⟨_, _, rfl, rfl, hc41⟩ rfl (OV.ibin (v := .bool (decide ((r42 : Int) < 0))) rfl rfl rfl) ?_
        refine GL.val ⟨_, _, rfl, rfl, hc41⟩ rfl (OV.move (v := .int .i64 p_n) rfl) ?_
        refine GL.val ⟨_, _, rfl, rfl, hc41⟩ rfl (OV.move (v := .int .i64 p_m) rfl) ?_
        refine GL.val ⟨_, _, rfl, rfl, hc41⟩ rfl (OV.ibin (v := .bool (decide ((p_n : Int) < p_m))) rfl rfl rfl) ?_
        refine GL.val ⟨_, _, rfl, rfl, hc41⟩ rfl (OV.eqlBool rfl rfl rfl) ?_
        refine GL.val trivial rfl (OV.pickF (b := (p_n : Int) == p_m) (v := .bool ((decide ((r42 : Int) < 0)) == (decide ((p_n : Int) < p_m)))) rfl hc41 rfl) ?_
        exact GL.jump (fun _ _ h => h) ((decide ((r42 : Int) < 0)) == (decide ((p_n : Int) < p_m))) h ⟨rfl, rfl, rfl, rfl, rfl, rfl, rfl, rfl, rfl, trivial⟩
    intro b38 H44 h
    replace h := hR40 b38 H44 h
    refine GL.val trivial rfl (OV.move (v := .bool b38) rfl) ?_
    obtain ⟨J46, h, hR47⟩ := h
    refine GL.cut (α := Bool) 14 J46 (fun b45 => [(101, .bool b45), (4, sv p_s), (5, sv p_t), (21, slv r32), (22, slv r36)]) ?_ ?_
    · rcases Bool.eq_false_or_eq_true b38 with hc48 | hc48
      · skip
        replace h := And.left h hc48
        refine GL.val ⟨_, _, rfl, rfl, hc48⟩ rfl (OV.move (v := .int .i64 (bAnd .i64 p_c 2147483647)) rfl) ?_
        refine GL.val ⟨_, _, rfl, rfl, hc48⟩ rfl (OV.move (v := .int .i64 (bAnd .i64 p_d 2147483647)) rfl) ?_
        refine GL.val ⟨_, _, rfl, rfl, hc48⟩ rfl (OV.ibin (v := .bool (((bAnd .i64 p_c 2147483647) : Int) == (bAnd .i64 p_d 2147483647))) rfl rfl rfl) ?_
        refine GL.val ⟨_, _, rfl, rfl, hc48⟩ rfl (OV.move (v := .bool (((bAnd .i64 p_c 2147483647) : Int) == (bAnd .i64 p_d 2147483647))) rfl) ?_
        obtain ⟨J50, h, hR51⟩ := h
        refine GL.cut (α := Bool) 9 J50 (fun b49 => [(100, .bool b49), (4, sv p_s), (5, sv p_t), (21, slv r32), (22, slv r36), (87, .bool b38)]) ?_ ?_
        · rcases Bool.eq_false_or_eq_true (((bAnd .i64 p_c 2147483647) : Int) == (bAnd .i64 p_d 2147483647)) with hc52 | hc52
          · skip
            replace h := And.left h hc52
            refine GL.skip ⟨_, rfl, .inl ⟨_, rfl, hc52⟩⟩ rfl ?_
            refine GL.skip ⟨_, rfl, .inl ⟨_, rfl, hc52⟩⟩ rfl ?_
            refine GL.skip ⟨_, rfl, .inl ⟨_, rfl, hc52⟩⟩ rfl ?_
            refine GL.skip ⟨_, rfl, .inl ⟨_, rfl, hc52⟩⟩ rfl ?_
            refine GL.skip ⟨_, rfl, .inl ⟨_, rfl, hc52⟩⟩ rfl ?_
            refine GL.skip ⟨_, rfl, .inl ⟨_, rfl, hc52⟩⟩ rfl ?_
            refine GL.skip ⟨_, rfl, .inl ⟨_, rfl, hc52⟩⟩ rfl ?_
            refine GL.skip ⟨_, rfl, .inl ⟨_, rfl, hc52⟩⟩ rfl ?_
            refine GL.val ⟨_, _, rfl, rfl, hc48⟩ rfl (OV.pickT (b := ((bAnd .i64 p_c 2147483647) : Int) == (bAnd .i64 p_d 2147483647)) (v := .bool true) rfl hc52 rfl) ?_
            exact GL.jump (fun _ _ h => h) true h ⟨rfl, rfl, rfl, rfl, rfl, rfl, trivial⟩
          · skip
            replace h := And.right h hc52
            refine GL.val ⟨_, _, rfl, rfl, hc52⟩ rfl (OV.move (v := slv r24) rfl) ?_
            refine GL.val ⟨_, _, rfl, rfl, hc52⟩ rfl (OV.move (v := slv r28) rfl) ?_
            refine GL.call h ⟨_, _, rfl, rfl, hc52⟩ rfl ok_law03_stands (vs := [slv r24, slv r28]) rfl ?_
            rintro _ H54 ⟨r53, rfl, h⟩
            refine GL.val ⟨_, _, rfl, rfl, hc52⟩ rfl (OV.ibin (v := .bool (decide ((r53 : Int) < 0))) rfl rfl rfl) ?_
            refine GL.val ⟨_, _, rfl, rfl, hc52⟩ rfl (OV.move (v := .int .i64 (bAnd .i64 p_c 2147483647)) rfl) ?_
            refine GL.val ⟨_, _, rfl, rfl, hc52⟩ rfl (OV.move (v := .int .i64 (bAnd .i64 p_d 2147483647)) rfl) ?_
            refine GL.val ⟨_, _, rfl, rfl, hc52⟩ rfl (OV.ibin (v := .bool (decide (((bAnd .i64 p_c 2147483647) : Int) < (bAnd .i64 p_d 2147483647)))) rfl rfl rfl) ?_
            refine GL.val ⟨_, _, rfl, rfl, hc52⟩ rfl (OV.eqlBool rfl rfl rfl) ?_
            refine GL.val ⟨_, _, rfl, rfl, hc48⟩ rfl (OV.pickF (b := ((bAnd .i64 p_c 2147483647) : Int) == (bAnd .i64 p_d 2147483647)) (v := .bool ((decide ((r53 : Int) < 0)) == (decide (((bAnd .i64 p_c 2147483647) : Int) < (bAnd .i64 p_d 2147483647))))) rfl hc52 rfl) ?_
            exact GL.jump (fun _ _ h => h) ((decide ((r53 : Int) < 0)) == (decide (((bAnd .i64 p_c 2147483647) : Int) < (bAnd .i64 p_d 2147483647)))) h ⟨rfl, rfl, rfl, rfl, rfl, rfl, trivial⟩
        intro b49 H55 h
        replace h := hR51 b49 H55 h
        refine GL.val trivial rfl (OV.pickT (b := b38) (v := .bool b49) rfl hc48 rfl) ?_
        exact GL.jump (fun _ _ h => h) b49 h ⟨rfl, rfl, rfl, rfl, rfl, trivial⟩
      · skip
        replace h := And.right h hc48
        refine GL.skip ⟨_, rfl, .inl ⟨_, rfl, hc48⟩⟩ rfl ?_
        refine GL.skip ⟨_, rfl, .inl ⟨_, rfl, hc48⟩⟩ rfl ?_
        refine GL.skip ⟨_, rfl, .inl ⟨_, rfl, hc48⟩⟩ rfl ?_
        refine GL.skip ⟨_, rfl, .inl ⟨_, rfl, hc48⟩⟩ rfl ?_
        refine GL.skip ⟨_, rfl, .inr rfl⟩ rfl ?_
        refine GL.skip ⟨_, rfl, .inr rfl⟩ rfl ?_
        refine GL.skip ⟨_, rfl, .inr rfl⟩ rfl ?_
        refine GL.skip ⟨_, rfl, .inr rfl⟩ rfl ?_
        refine GL.skip ⟨_, rfl, .inr rfl⟩ rfl ?_
        refine GL.skip ⟨_, rfl, .inr rfl⟩ rfl ?_
        refine GL.skip ⟨_, rfl, .inr rfl⟩ rfl ?_
        refine GL.skip ⟨_, rfl, .inr rfl⟩ rfl ?_
        refine GL.skip ⟨_, rfl, .inl ⟨_, rfl, hc48⟩⟩ rfl ?_
        refine GL.val trivial rfl (OV.pickF (b := b38) (v := .bool false) rfl hc48 rfl) ?_
        exact GL.jump (fun _ _ h => h) false h ⟨rfl, rfl, rfl, rfl, rfl, trivial⟩
    intro b45 H56 h
    replace h := hR47 b45 H56 h
    refine GL.val trivial rfl (OV.move (v := .bool b45) rfl) ?_
    obtain ⟨J58, h, hR59⟩ := h
    refine GL.cut (α := Bool) 14 J58 (fun b57 => [(116, .bool b57)]) ?_ ?_
    · rcases Bool.eq_false_or_eq_true b45 with hc60 | hc60
      · skip
        replace h := And.left h hc60
        refine GL.val ⟨_, _, rfl, rfl, hc60⟩ rfl (OV.move (v := sv p_s) rfl) ?_
        refine GL.val ⟨_, _, rfl, rfl, hc60⟩ rfl (OV.move (v := sv p_t) rfl) ?_
        refine GL.val ⟨_, _, rfl, rfl, hc60⟩ rfl (OV.sbin (a := p_s) (b := p_t) (v := .bool (p_s == p_t)) rfl rfl rfl) ?_
        refine GL.val ⟨_, _, rfl, rfl, hc60⟩ rfl (OV.move (v := .bool (p_s == p_t)) rfl) ?_
        obtain ⟨J62, h, hR63⟩ := h
        refine GL.cut (α := Bool) 9 J62 (fun b61 => [(115, .bool b61), (102, .bool b45)]) ?_ ?_
        · rcases Bool.eq_false_or_eq_true (p_s == p_t) with hc64 | hc64
          · skip
            replace h := And.left h hc64
            refine GL.skip ⟨_, rfl, .inl ⟨_, rfl, hc64⟩⟩ rfl ?_
            refine GL.skip ⟨_, rfl, .inl ⟨_, rfl, hc64⟩⟩ rfl ?_
            refine GL.skip ⟨_, rfl, .inl ⟨_, rfl, hc64⟩⟩ rfl ?_
            refine GL.skip ⟨_, rfl, .inl ⟨_, rfl, hc64⟩⟩ rfl ?_
            refine GL.skip ⟨_, rfl, .inl ⟨_, rfl, hc64⟩⟩ rfl ?_
            refine GL.skip ⟨_, rfl, .inl ⟨_, rfl, hc64⟩⟩ rfl ?_
            refine GL.skip ⟨_, rfl, .inl ⟨_, rfl, hc64⟩⟩ rfl ?_
            refine GL.skip ⟨_, rfl, .inl ⟨_, rfl, hc64⟩⟩ rfl ?_
            refine GL.val ⟨_, _, rfl, rfl, hc60⟩ rfl (OV.pickT (b := p_s == p_t) (v := .bool true) rfl hc64 rfl) ?_
            exact GL.jump (fun _ _ h => h) true h ⟨rfl, rfl, trivial⟩
          · skip
            replace h := And.right h hc64
            refine GL.val ⟨_, _, rfl, rfl, hc64⟩ rfl (OV.move (v := slv r32) rfl) ?_
            refine GL.val ⟨_, _, rfl, rfl, hc64⟩ rfl (OV.move (v := slv r36) rfl) ?_
            refine GL.call h ⟨_, _, rfl, rfl, hc64⟩ rfl ok_law03_stands (vs := [slv r32, slv r36]) rfl ?_
            rintro _ H66 ⟨r65, rfl, h⟩
            refine GL.val ⟨_, _, rfl, rfl, hc64⟩ rfl (OV.ibin (v := .bool (decide ((r65 : Int) < 0))) rfl rfl rfl) ?_
            refine GL.val ⟨_, _, rfl, rfl, hc64⟩ rfl (OV.move (v := sv p_s) rfl) ?_
            refine GL.val ⟨_, _, rfl, rfl, hc64⟩ rfl (OV.move (v := sv p_t) rfl) ?_
            refine GL.val ⟨_, _, rfl, rfl, hc64⟩ rfl (OV.sbin (a := p_s) (b := p_t) (v := .bool (slt p_s p_t)) rfl rfl rfl) ?_
            refine GL.val ⟨_, _, rfl, rfl, hc64⟩ rfl (OV.eqlBool rfl rfl rfl) ?_
            refine GL.val ⟨_, _, rfl, rfl, hc60⟩ rfl (OV.pickF (b := p_s == p_t) (v := .bool ((decide ((r65 : Int) < 0)) == (slt p_s p_t))) rfl hc64 rfl) ?_
            exact GL.jump (fun _ _ h => h) ((decide ((r65 : Int) < 0)) == (slt p_s p_t)) h ⟨rfl, rfl, trivial⟩
        intro b61 H67 h
        replace h := hR63 b61 H67 h
        refine GL.val trivial rfl (OV.pickT (b := b45) (v := .bool b61) rfl hc60 rfl) ?_
        exact GL.jump (fun _ _ h => h) b61 h ⟨rfl, trivial⟩
      · skip
        replace h := And.right h hc60
        refine GL.skip ⟨_, rfl, .inl ⟨_, rfl, hc60⟩⟩ rfl ?_
        refine GL.skip ⟨_, rfl, .inl ⟨_, rfl, hc60⟩⟩ rfl ?_
        refine GL.skip ⟨_, rfl, .inl ⟨_, rfl, hc60⟩⟩ rfl ?_
        refine GL.skip ⟨_, rfl, .inl ⟨_, rfl, hc60⟩⟩ rfl ?_
        refine GL.skip ⟨_, rfl, .inr rfl⟩ rfl ?_
        refine GL.skip ⟨_, rfl, .inr rfl⟩ rfl ?_
        refine GL.skip ⟨_, rfl, .inr rfl⟩ rfl ?_
        refine GL.skip ⟨_, rfl, .inr rfl⟩ rfl ?_
        refine GL.skip ⟨_, rfl, .inr rfl⟩ rfl ?_
        refine GL.skip ⟨_, rfl, .inr rfl⟩ rfl ?_
        refine GL.skip ⟨_, rfl, .inr rfl⟩ rfl ?_
        refine GL.skip ⟨_, rfl, .inr rfl⟩ rfl ?_
        refine GL.skip ⟨_, rfl, .inl ⟨_, rfl, hc60⟩⟩ rfl ?_
        refine GL.val trivial rfl (OV.pickF (b := b45) (v := .bool false) rfl hc60 rfl) ?_
        exact GL.jump (fun _ _ h => h) false h ⟨rfl, trivial⟩
    intro b57 H68 h
    replace h := hR59 b57 H68 h
    refine GL.val trivial rfl (OV.assign (v := .bool b57) rfl) ?_
    refine GL.nil ?_
    exact GC.ret (fun _ _ hf hs => post_tmp1 rfl rfl hf hs ⟨b57, rfl, h⟩)

def sh_law03_CodeShort (C : Ctx) (p_n : Int) (p_c : Int) (p_d : Int) (p_s : Str) (K : Bool → Heap → Prop) (H : Heap) : Prop :=
  jn (α := Bool) (fun b1 H7 =>
 ift b1
 (c_law03_works C (fun r9 H10 =>
 K r9 H10) H7)
 (c_code_Num C Sl.nil p_n (fun r11 H12 =>
 c_code_Num C Sl.nil (w .i64 ((-1) - p_n)) (fun r13 H14 =>
 ift (((decide (((Sl.len r11 : Int) : Int) < 1)) || (decide (((Sl.len r11 : Int) : Int) > 9))) || (((Sl.len r11 : Int) : Int) != (Sl.len r13 : Int)))
 (K false H14)
 (lp (α := Int) 0 H14 (fun x18 J19 H20 =>
 ift (decide ((x18 : Int) < (Sl.len r11 : Int)))
 (ixa r11 x18 fun p22 =>
 ldI H20 .u8 (p22.1, p22.2 + (x18 : Int).toNat * 1) fun x27 =>
 ixa r13 x18 fun p29 =>
 ldI H20 .u8 (p29.1, p29.2 + (x18 : Int).toNat * 1) fun x34 =>
 ift (((w .i64 ((w .i64 x27) + (w .i64 x34))) : Int) != 255)
 (K false H20)
 (J19 (w .i64 (x18 + 1)) H20))
 (lp (α := Int × Int) ((w .i64 ((List.length p_s : Int) + 2)), 0) H20 (fun x37 J38 H39 =>
 ift (decide ((x37.2 : Int) < (List.length p_s : Int)))
 (jn (α := Int) (fun x42 H43 =>
 J38 (x42, (w .i64 (x37.2 + 1))) H43)
 (fun J41 => ixs p_s x37.2 fun c45 =>
 ift (((c45.toNat : Int) : Int) == 0)
 (J41 (w .i64 (x37.1 + 1)) H39)
 (J41 x37.1 H39)))
 (c_code_Count C Sl.nil (if (bAnd .i64 p_d 2147483647) > (bAnd .i64 p_c 2147483647) then (bAnd .i64 p_d 2147483647) else (bAnd .i64 p_c 2147483647) : Int) (fun r49 H50 =>
 jn (α := Bool) (fun b51 H59 =>
 jn (α := Bool) (fun b60 H66 =>
 K b60 H66)
 (fun J61 => ift b51
 (c_code_Str C Sl.nil p_s (fun r64 H65 =>
 J61 (((Sl.len r64 : Int) : Int) == x37.1) H65) H59)
 (J61 false H59)))
 (fun J52 => ift (decide (((Sl.len r49 : Int) : Int) ≤ 5))
 (c_code_Count C Sl.nil (if (bAnd .i64 p_d 2147483647) < (bAnd .i64 p_c 2147483647) then (bAnd .i64 p_d 2147483647) else (bAnd .i64 p_c 2147483647) : Int) (fun r55 H56 =>
 c_code_Count C Sl.nil (if (bAnd .i64 p_d 2147483647) > (bAnd .i64 p_c 2147483647) then (bAnd .i64 p_d 2147483647) else (bAnd .i64 p_c 2147483647) : Int) (fun r57 H58 =>
 J52 (decide (((Sl.len r55 : Int) : Int) ≤ (Sl.len r57 : Int))) H58) H56) H50)
 (J52 false H50))) H39)))))) H12) H7))
 (fun J2 => ift (decide (((List.length p_s : Int) : Int) > 3000))
 (J2 true H)
 (c_law03_works C (fun r5 H6 =>
 J2 (!r5) H6) H))

theorem ad_law03_CodeShort (C : Ctx) (p_n : Int) (p_c : Int) (p_d : Int) (p_s : Str) (K : Bool → Heap → Prop) (H : Heap) (h : sh_law03_CodeShort C p_n p_c p_d p_s K H) : c_law03_CodeShort C p_n p_c p_d p_s K H := by
  refine Spec.enter Try.func4 rfl Try.ntmps4 rfl ?_
  refine GC.sub [(0, .int .i64 p_n), (1, .int .i64 p_c), (2, .int .i64 p_d), (3, sv p_s)] ⟨rfl, rfl, rfl, rfl, trivial⟩ ?_
  refine GC.seq ?_
  refine GC.region ?_
  refine GL.val trivial rfl (OV.assign (v := .bool false) rfl) ?_
  refine GL.nil ?_
  refine GC.seq ?_
  refine GC.seq ?_
  refine GC.region ?_
  refine GL.val trivial rfl (OV.move (v := sv p_s) rfl) ?_
  refine GL.val trivial rfl (OV.lenStr (s := p_s) rfl rfl) ?_
  refine GL.val trivial rfl (OV.ibin (v := .bool (decide (((List.length p_s : Int) : Int) > 3000))) rfl rfl rfl) ?_
  refine GL.val trivial rfl (OV.move (v := .bool (decide (((List.length p_s : Int) : Int) > 3000))) rfl) ?_
  obtain ⟨J2, h, hR3⟩ := h
  refine GL.cut (α := Bool) 3 J2 (fun b1 => [(20, .bool b1), (0, .int .i64 p_n), (1, .int .i64 p_c), (2, .int .i64 p_d), (3, sv p_s)]) ?_ ?_
  · rcases Bool.eq_false_or_eq_true (decide (((List.length p_s : Int) : Int) > 3000)) with hc4 | hc4
    · skip
      replace h := And.left h hc4
      refine GL.skip ⟨_, rfl, .inl ⟨_, rfl, hc4⟩⟩ rfl ?_
      refine GL.skip ⟨_, rfl, .inl ⟨_, rfl, hc4⟩⟩ rfl ?_
      refine GL.val trivial rfl (OV.pickT (b := decide (((List.length p_s : Int) : Int) > 3000)) (v := .bool true) rfl hc4 rfl) ?_
      exact GL.jump (fun _ _ h => h) true h ⟨rfl, rfl, rfl, rfl, rfl, trivial⟩
    · skip
      replace h := And.right h hc4
      refine GL.call h ⟨_, _, rfl, rfl, hc4⟩ rfl ok_law03_works (vs := []) rfl ?_
      rintro _ H6 ⟨r5, rfl, h⟩
      refine GL.val ⟨_, _, rfl, rfl, hc4⟩ rfl (OV.not rfl) ?_
      refine GL.val trivial rfl (OV.pickF (b := decide (((List.length p_s : Int) : Int) > 3000)) (v := .bool (!r5)) rfl hc4 rfl) ?_
      exact GL.jump (fun _ _ h => h) (!r5) h ⟨rfl, rfl, rfl, rfl, rfl, trivial⟩
  intro b1 H7 h
  replace h := hR3 b1 H7 h
  refine GL.nil ?_
  refine GC.cond (b := b1) rfl (fun hc8 => ?_) (fun hc8 => ?_)
  · replace h := And.left h hc8
    refine GC.seq ?_
    refine GC.region ?_
    refine GL.call h trivial rfl ok_law03_works (vs := []) rfl ?_
    rintro _ H10 ⟨r9, rfl, h⟩
    refine GL.val trivial rfl (OV.assign (v := .bool r9) rfl) ?_
    refine GL.nil ?_
    exact GC.ret (fun _ _ hf hs => post_tmp1 rfl rfl hf hs ⟨r9, rfl, h⟩)
  · replace h := And.right h hc8
    refine GC.skip ?_
    refine GC.seq ?_
    refine GC.region ?_
    refine GL.val trivial rfl (OV.move (v := .int .i64 p_n) rfl) ?_
    refine GL.call h trivial rfl ok_code_Num (vs := [slv Sl.nil, .int .i64 p_n]) rfl ?_
    rintro _ H12 ⟨r11, rfl, h⟩
    refine GL.val trivial rfl (OV.move (v := .int .i64 p_n) rfl) ?_
    refine GL.val trivial rfl (OV.ibin (v := .int .i64 (w .i64 ((-1) - p_n))) rfl rfl rfl) ?_
    refine GL.call h trivial rfl ok_code_Num (vs := [slv Sl.nil, .int .i64 (w .i64 ((-1) - p_n))]) rfl ?_
    rintro _ H14 ⟨r13, rfl, h⟩
    refine GL.val trivial rfl (OV.assign (v := slv r11) rfl) ?_
    refine GL.val trivial rfl (OV.assign (v := slv r13) rfl) ?_
    refine GL.nil ?_
    refine GC.seq ?_
    refine GC.seq ?_
    refine GC.region ?_
    refine GL.val trivial rfl (OV.move (v := slv r11) rfl) ?_
    refine GL.val trivial rfl (OV.lenSl (s := r11) rfl rfl) ?_
    refine GL.val trivial rfl (OV.ibin (v := .bool (decide (((Sl.len r11 : Int) : Int) < 1))) rfl rfl rfl) ?_
    refine GL.val trivial rfl (OV.move (v := .bool (decide (((Sl.len r11 : Int) : Int) < 1))) rfl) ?_
    refine GL.cut0 4 [(34, .bool ((decide (((Sl.len r11 : Int) : Int) < 1)) || (decide (((Sl.len r11 : Int) : Int) > 9)))), (1, .int .i64 p_c), (2, .int .i64 p_d), (3, sv p_s), (9, slv r11), (10, slv r13)] ?_ ?_
    · rcases Bool.eq_false_or_eq_true (decide (((Sl.len r11 : Int) : Int) < 1)) with hc15 | hc15
      · skip
        refine GL.skip ⟨_, rfl, .inl ⟨_, rfl, hc15⟩⟩ rfl ?_
        refine GL.skip ⟨_, rfl, .inl ⟨_, rfl, hc15⟩⟩ rfl ?_
        refine GL.skip ⟨_, rfl, .inl ⟨_, rfl, hc15⟩⟩ rfl ?_
        refine GL.val trivial rfl (OV.pickT (b := decide (((Sl.len r11 : Int) : Int) < 1)) (v := .bool true) rfl hc15 rfl) ?_
        exact GL.jump0 (fun _ _ h => h) () rfl ⟨(by rw [hc15]; rfl), rfl, rfl, rfl, rfl, rfl, trivial⟩
      · skip
        refine GL.val ⟨_, _, rfl, rfl, hc15⟩ rfl (OV.move (v := slv r11) rfl) ?_
        refine GL.val ⟨_, _, rfl, rfl, hc15⟩ rfl (OV.lenSl (s := r11) rfl rfl) ?_
        refine GL.val ⟨_, _, rfl, rfl, hc15⟩ rfl (OV.ibin (v := .bool (decide (((Sl.len r11 : Int) : Int) > 9))) rfl rfl rfl) ?_
        refine GL.val trivial rfl (OV.pickF (b := decide (((Sl.len r11 : Int) : Int) < 1)) (v := .bool (decide (((Sl.len r11 : Int) : Int) > 9))) rfl hc15 rfl) ?_
        exact GL.jump0 (fun _ _ h => h) () rfl ⟨(by rw [hc15]; rfl), rfl, rfl, rfl, rfl, rfl, trivial⟩
    refine GL.val trivial rfl (OV.move (v := .bool ((decide (((Sl.len r11 : Int) : Int) < 1)) || (decide (((Sl.len r11 : Int) : Int) > 9)))) rfl) ?_
    refine GL.cut0 6 [(41, .bool (((decide (((Sl.len r11 : Int) : Int) < 1)) || (decide (((Sl.len r11 : Int) : Int) > 9))) || (((Sl.len r11 : Int) : Int) != (Sl.len r13 : Int)))), (1, .int .i64 p_c), (2, .int .i64 p_d), (3, sv p_s), (9, slv r11), (10, slv r13)] ?_ ?_
    · rcases Bool.eq_false_or_eq_true ((decide (((Sl.len r11 : Int) : Int) < 1)) || (decide (((Sl.len r11 : Int) : Int) > 9))) with hc16 | hc16
      · skip
        refine GL.skip ⟨_, rfl, .inl ⟨_, rfl, hc16⟩⟩ rfl ?_
        refine GL.skip ⟨_, rfl, .inl ⟨_, rfl, hc16⟩⟩ rfl ?_
        refine GL.skip ⟨_, rfl, .inl ⟨_, rfl, hc16⟩⟩ rfl ?_
        refine GL.skip ⟨_, rfl, .inl ⟨_, rfl, hc16⟩⟩ rfl ?_
        refine GL.skip ⟨_, rfl, .inl ⟨_, rfl, hc16⟩⟩ rfl ?_
        refine GL.val trivial rfl (OV.pickT (b := (decide (((Sl.len r11 : Int) : Int) < 1)) || (decide (((Sl.len r11 : Int) : Int) > 9))) (v := .bool true) rfl hc16 rfl) ?_
        exact GL.jump0 (fun _ _ h => h) () rfl ⟨(by rw [hc16]; rfl), rfl, rfl, rfl, rfl, rfl, trivial⟩
      · skip
        refine GL.val ⟨_, _, rfl, rfl, hc16⟩ rfl (OV.move (v := slv r11) rfl) ?_
        refine GL.val ⟨_, _, rfl, rfl, hc16⟩ rfl (OV.lenSl (s := r11) rfl rfl) ?_
        refine GL.val ⟨_, _, rfl, rfl, hc16⟩ rfl (OV.move (v := slv r13) rfl) ?_
        refine GL.val ⟨_, _, rfl, rfl, hc16⟩ rfl (OV.lenSl (s := r13) rfl rfl) ?_
        refine GL.val ⟨_, _, rfl, rfl, hc16⟩ rfl (OV.ibin (v := .bool (((Sl.len r11 : Int) : Int) != (Sl.len r13 : Int))) rfl rfl rfl) ?_
        refine GL.val trivial rfl (OV.pickF (b := (decide (((Sl.len r11 : Int) : Int) < 1)) || (decide (((Sl.len r11 : Int) : Int) > 9))) (v := .bool (((Sl.len r11 : Int) : Int) != (Sl.len r13 : Int))) rfl hc16 rfl) ?_
        exact GL.jump0 (fun _ _ h => h) () rfl ⟨(by rw [hc16]; rfl), rfl, rfl, rfl, rfl, rfl, trivial⟩
    refine GL.nil ?_
    refine GC.cond (b := ((decide (((Sl.len r11 : Int) : Int) < 1)) || (decide (((Sl.len r11 : Int) : Int) > 9))) || (((Sl.len r11 : Int) : Int) != (Sl.len r13 : Int))) rfl (fun hc17 => ?_) (fun hc17 => ?_)
    · replace h := And.left h hc17
      refine GC.seq ?_
      refine GC.region ?_
      refine GL.val trivial rfl (OV.assign (v := .bool false) rfl) ?_
      refine GL.nil ?_
      exact GC.ret (fun _ _ hf hs => post_tmp1 rfl rfl hf hs ⟨false, rfl, h⟩)
    · replace h := And.right h hc17
      refine GC.skip ?_
      refine GC.seq ?_
      refine GC.seq ?_
      refine GC.region ?_
      refine GL.val trivial rfl (OV.assign (v := .int .i64 0) rfl) ?_
      refine GL.nil ?_
      refine GC.block ?_
      refine GC.loop (α := Int) h (fun x18 => [(11, .int .i64 x18), (1, .int .i64 p_c), (2, .int .i64 p_d), (3, sv p_s), (9, slv r11), (10, slv r13)]) ⟨rfl, rfl, rfl, rfl, rfl, rfl, trivial⟩ ?_
      intro x18 H20 J19 h
      refine GC.seq ?_
      refine GC.seq ?_
      refine GC.region ?_
      refine GL.val trivial rfl (OV.move (v := .int .i64 x18) rfl) ?_
      refine GL.val trivial rfl (OV.move (v := slv r11) rfl) ?_
      refine GL.val trivial rfl (OV.lenSl (s := r11) rfl rfl) ?_
      refine GL.val trivial rfl (OV.ibin (v := .bool (decide ((x18 : Int) < (Sl.len r11 : Int)))) rfl rfl rfl) ?_
      refine GL.nil ?_
      refine GC.cond (b := decide ((x18 : Int) < (Sl.len r11 : Int))) rfl (fun hc21 => ?_) (fun hc21 => ?_)
      · replace h := And.left h hc21
        refine GC.skip ?_
        refine GC.seq ?_
        refine GC.block ?_
        refine GC.seq ?_
        refine GC.draw (by kernel_rfl) (by kernel_rfl) ?_
        refine GQ.val trivial rfl (OV.move (v := slv r11) rfl) ?_
        refine GQ.val trivial rfl (OV.move (v := .int .i64 x18) rfl) ?_
        obtain ⟨p22, ha23, hb24, hc25, hd26, h⟩ := h
        refine GQ.val trivial rfl (OV.indexAddr (s := r11) rfl rfl rfl rfl ha23 hb24 hc25 hd26) ?_
        obtain ⟨x27, hr28, h⟩ := h
        refine GQ.val trivial rfl (OV.load (p := (p22.1, p22.2 + (x18 : Int).toNat * 1)) rfl rfl hr28) ?_
        refine GQ.val trivial rfl (OV.convInt rfl rfl rfl) ?_
        refine GQ.val trivial rfl (OV.move (v := slv r13) rfl) ?_
        refine GQ.val trivial rfl (OV.move (v := .int .i64 x18) rfl) ?_
        obtain ⟨p29, ha30, hb31, hc32, hd33, h⟩ := h
        refine GQ.val trivial rfl (OV.indexAddr (s := r13) rfl rfl rfl rfl ha30 hb31 hc32 hd33) ?_
        obtain ⟨x34, hr35, h⟩ := h
        refine GQ.val trivial rfl (OV.load (p := (p29.1, p29.2 + (x18 : Int).toNat * 1)) rfl rfl hr35) ?_
        refine GQ.val trivial rfl (OV.convInt rfl rfl rfl) ?_
        refine GQ.val trivial rfl (OV.ibin (v := .int .i64 (w .i64 ((w .i64 x27) + (w .i64 x34)))) rfl rfl rfl) ?_
        refine GQ.val trivial rfl (OV.ibin (v := .bool (((w .i64 ((w .i64 x27) + (w .i64 x34))) : Int) != 255)) rfl rfl rfl) ?_
        refine GQ.nil ?_
        refine GL.nil ?_
        refine GC.cond (b := ((w .i64 ((w .i64 x27) + (w .i64 x34))) : Int) != 255) rfl (fun hc36 => ?_) (fun hc36 => ?_)
        · replace h := And.left h hc36
          refine GC.seq ?_
          refine GC.region ?_
          refine GL.val trivial rfl (OV.assign (v := .bool false) rfl) ?_
          refine GL.nil ?_
          exact GC.ret (fun _ _ hf hs => post_tmp1 rfl rfl hf hs ⟨false, rfl, h⟩)
        · replace h := And.right h hc36
          refine GC.skip_to (fun _ _ h => h) ?_
          refine GC.region ?_
          refine GL.val trivial rfl (OV.move (v := .int .i64 x18) rfl) ?_
          refine GL.val trivial rfl (OV.ibin (v := .int .i64 (w .i64 (x18 + 1))) rfl rfl rfl) ?_
          refine GL.val trivial rfl (OV.assign (v := .int .i64 (w .i64 (x18 + 1))) rfl) ?_
          exact GL.jump (fun _ _ h => h) (w .i64 (x18 + 1)) h ⟨rfl, rfl, rfl, rfl, rfl, rfl, trivial⟩
      · replace h := And.right h hc21
        refine GC.exit_to (fun _ _ h => h) ?_
        refine GC.seq ?_
        refine GC.region ?_
        refine GL.val trivial rfl (OV.move (v := .int .i64 p_c) rfl) ?_
        refine GL.val trivial rfl (OV.ibin (v := .int .i64 (bAnd .i64 p_c 2147483647)) rfl rfl rfl) ?_
        refine GL.val trivial rfl (OV.move (v := .int .i64 p_d) rfl) ?_
        refine GL.val trivial rfl (OV.ibin (v := .int .i64 (bAnd .i64 p_d 2147483647)) rfl rfl rfl) ?_
        refine GL.val trivial rfl (OV.assign (v := .int .i64 (bAnd .i64 p_c 2147483647)) rfl) ?_
        refine GL.val trivial rfl (OV.assign (v := .int .i64 (bAnd .i64 p_d 2147483647)) rfl) ?_
        refine GL.nil ?_
        refine GC.seq ?_
        refine GC.region ?_
        refine GL.val trivial rfl (OV.move (v := sv p_s) rfl) ?_
        refine GL.val trivial rfl (OV.lenStr (s := p_s) rfl rfl) ?_
        refine GL.val trivial rfl (OV.ibin (v := .int .i64 (w .i64 ((List.length p_s : Int) + 2))) rfl rfl rfl) ?_
        refine GL.val trivial rfl (OV.assign (v := .int .i64 (w .i64 ((List.length p_s : Int) + 2))) rfl) ?_
        refine GL.nil ?_
        refine GC.seq ?_
        refine GC.seq ?_
        refine GC.region ?_
        refine GL.val trivial rfl (OV.assign (v := .int .i64 0) rfl) ?_
        refine GL.nil ?_
        refine GC.block ?_
        refine GC.loop (α := Int × Int) h (fun x37 => [(12, .int .i64 x37.1), (13, .int .i64 x37.2), (1, .int .i64 (bAnd .i64 p_c 2147483647)), (2, .int .i64 (bAnd .i64 p_d 2147483647)), (3, sv p_s)]) ⟨rfl, rfl, rfl, rfl, rfl, trivial⟩ ?_
        intro x37 H39 J38 h
        refine GC.seq ?_
        refine GC.seq ?_
        refine GC.region ?_
        refine GL.val trivial rfl (OV.move (v := .int .i64 x37.2) rfl) ?_
        refine GL.val trivial rfl (OV.move (v := sv p_s) rfl) ?_
        refine GL.val trivial rfl (OV.lenStr (s := p_s) rfl rfl) ?_
        refine GL.val trivial rfl (OV.ibin (v := .bool (decide ((x37.2 : Int) < (List.length p_s : Int)))) rfl rfl rfl) ?_
        refine GL.nil ?_
        refine GC.cond (b := decide ((x37.2 : Int) < (List.length p_s : Int))) rfl (fun hc40 => ?_) (fun hc40 => ?_)
        · replace h := And.left h hc40
          refine GC.skip ?_
          obtain ⟨J41, h, hR44⟩ := h
          refine GC.join (α := Int) J41 (fun x42 => [(12, .int .i64 x42), (1, .int .i64 (bAnd .i64 p_c 2147483647)), (2, .int .i64 (bAnd .i64 p_d 2147483647)), (3, sv p_s), (13, .int .i64 x37.2)]) ?_ ?_
          · skip
            refine GC.block ?_
            refine GC.seq ?_
            refine GC.region ?_
            refine GL.val trivial rfl (OV.move (v := sv p_s) rfl) ?_
            refine GL.val trivial rfl (OV.move (v := .int .i64 x37.2) rfl) ?_
            obtain ⟨c45, ha46, hb47, h⟩ := h
            refine GL.val trivial rfl (OV.indexStr (s := p_s) rfl rfl rfl ha46 hb47) ?_
            refine GL.val trivial rfl (OV.ibin (v := .bool (((c45.toNat : Int) : Int) == 0)) rfl rfl rfl) ?_
            refine GL.nil ?_
            refine GC.cond (b := ((c45.toNat : Int) : Int) == 0) rfl (fun hc48 => ?_) (fun hc48 => ?_)
            · replace h := And.left h hc48
              refine GC.region ?_
              refine GL.val trivial rfl (OV.move (v := .int .i64 x37.1) rfl) ?_
              refine GL.val trivial rfl (OV.ibin (v := .int .i64 (w .i64 (x37.1 + 1))) rfl rfl rfl) ?_
              refine GL.val trivial rfl (OV.assign (v := .int .i64 (w .i64 (x37.1 + 1))) rfl) ?_
              exact GL.jump (fun _ _ h => h) (w .i64 (x37.1 + 1)) h ⟨rfl, rfl, rfl, rfl, rfl, trivial⟩
            · replace h := And.right h hc48
              exact GC.jump (fun _ _ h => h) x37.1 h ⟨rfl, rfl, rfl, rfl, rfl, trivial⟩
          · intro x42 H43 h
            replace h := hR44 x42 H43 h
            refine GC.region ?_
            refine GL.val trivial rfl (OV.move (v := .int .i64 x37.2) rfl) ?_
            refine GL.val trivial rfl (OV.ibin (v := .int .i64 (w .i64 (x37.2 + 1))) rfl rfl rfl) ?_
            refine GL.val trivial rfl (OV.assign (v := .int .i64 (w .i64 (x37.2 + 1))) rfl) ?_
            exact GL.jump (fun _ _ h => h) (x42, (w .i64 (x37.2 + 1))) h ⟨rfl, rfl, rfl, rfl, rfl, trivial⟩
        · replace h := And.right h hc40
          refine GC.exit_to (fun _ _ h => h) ?_
          refine GC.seq ?_
          refine GC.region ?_
          refine GL.val trivial rfl (OV.move (v := .int .i64 (bAnd .i64 p_c 2147483647)) rfl) ?_
          refine GL.val trivial rfl (OV.move (v := .int .i64 (bAnd .i64 p_d 2147483647)) rfl) ?_
          refine GL.val trivial rfl (OV.maxI rfl rfl) ?_
          refine GL.call h trivial rfl ok_code_Count (vs := [slv Sl.nil, .int .i64 (if (bAnd .i64 p_d 2147483647) > (bAnd .i64 p_c 2147483647) then (bAnd .i64 p_d 2147483647) else (bAnd .i64 p_c 2147483647) : Int)]) rfl ?_
          rintro _ H50 ⟨r49, rfl, h⟩
          refine GL.val trivial rfl (OV.lenSl (s := r49) rfl rfl) ?_
          refine GL.val trivial rfl (OV.ibin (v := .bool (decide (((Sl.len r49 : Int) : Int) ≤ 5))) rfl rfl rfl) ?_
          refine GL.val trivial rfl (OV.move (v := .bool (decide (((Sl.len r49 : Int) : Int) ≤ 5))) rfl) ?_
          obtain ⟨J52, h, hR53⟩ := h
          refine GL.cut (α := Bool) 12 J52 (fun b51 => [(97, .bool b51), (3, sv p_s), (12, .int .i64 x37.1)]) ?_ ?_
          · rcases Bool.eq_false_or_eq_true (decide (((Sl.len r49 : Int) : Int) ≤ 5)) with hc54 | hc54
            · skip
              replace h := And.left h hc54
              refine GL.val ⟨_, _, rfl, rfl, hc54⟩ rfl (OV.move (v := .int .i64 (bAnd .i64 p_c 2147483647)) rfl) ?_
              refine GL.val ⟨_, _, rfl, rfl, hc54⟩ rfl (OV.move (v := .int .i64 (bAnd .i64 p_d 2147483647)) rfl) ?_
              refine GL.val ⟨_, _, rfl, rfl, hc54⟩ rfl (OV.minI rfl rfl) ?_
              refine GL.call h ⟨_, _, rfl, rfl, hc54⟩ rfl ok_code_Count (vs := [slv Sl.nil, .int .i64 (if (bAnd .i64 p_d 2147483647) < (bAnd .i64 p_c 2147483647) then (bAnd .i64 p_d 2147483647) else (bAnd .i64 p_c 2147483647) : Int)]) rfl ?_
              rintro _ H56 ⟨r55, rfl, h⟩
              refine GL.val ⟨_, _, rfl, rfl, hc54⟩ rfl (OV.lenSl (s := r55) rfl rfl) ?_
              refine GL.val ⟨_, _, rfl, rfl, hc54⟩ rfl (OV.move (v := .int .i64 (bAnd .i64 p_c 2147483647)) rfl) ?_
              refine GL.val ⟨_, _, rfl, rfl, hc54⟩ rfl (OV.move (v := .int .i64 (bAnd .i64 p_d 2147483647)) rfl) ?_
              refine GL.val ⟨_, _, rfl, rfl, hc54⟩ rfl (OV.maxI rfl rfl) ?_
              refine GL.call h ⟨_, _, rfl, rfl, hc54⟩ rfl ok_code_Count (vs := [slv Sl.nil, .int .i64 (if (bAnd .i64 p_d 2147483647) > (bAnd .i64 p_c 2147483647) then (bAnd .i64 p_d 2147483647) else (bAnd .i64 p_c 2147483647) : Int)]) rfl ?_
              rintro _ H58 ⟨r57, rfl, h⟩
              refine GL.val ⟨_, _, rfl, rfl, hc54⟩ rfl (OV.lenSl (s := r57) rfl rfl) ?_
              refine GL.val ⟨_, _, rfl, rfl, hc54⟩ rfl (OV.ibin (v := .bool (decide (((Sl.len r55 : Int) : Int) ≤ (Sl.len r57 : Int)))) rfl rfl rfl) ?_
              refine GL.val trivial rfl (OV.pickT (b := decide (((Sl.len r49 : Int) : Int) ≤ 5)) (v := .bool (decide (((Sl.len r55 : Int) : Int) ≤ (Sl.len r57 : Int)))) rfl hc54 rfl) ?_
              exact GL.jump (fun _ _ h => h) (decide (((Sl.len r55 : Int) : Int) ≤ (Sl.len r57 : Int))) h ⟨rfl, rfl, rfl, trivial⟩
            · skip
              replace h := And.right h hc54
              refine GL.skip ⟨_, rfl, .inl ⟨_, rfl, hc54⟩⟩ rfl ?_
              refine GL.skip ⟨_, rfl, .inl ⟨_, rfl, hc54⟩⟩ rfl ?_
              refine GL.skip ⟨_, rfl, .inl ⟨_, rfl, hc54⟩⟩ rfl ?_
              refine GL.skip ⟨_, rfl, .inl ⟨_, rfl, hc54⟩⟩ rfl ?_
              refine GL.skip ⟨_, rfl, .inl ⟨_, rfl, hc54⟩⟩ rfl ?_
              refine GL.skip ⟨_, rfl, .inl ⟨_, rfl, hc54⟩⟩ rfl ?_
              refine GL.skip ⟨_, rfl, .inl ⟨_, rfl, hc54⟩⟩ rfl ?_
              refine GL.skip ⟨_, rfl, .inl ⟨_, rfl, hc54⟩⟩ rfl ?_
              refine GL.skip ⟨_, rfl, .inl ⟨_, rfl, hc54⟩⟩ rfl ?_
              refine GL.skip ⟨_, rfl, .inl ⟨_, rfl, hc54⟩⟩ rfl ?_
              refine GL.skip ⟨_, rfl, .inl ⟨_, rfl, hc54⟩⟩ rfl ?_
              refine GL.val trivial rfl (OV.pickF (b := decide (((Sl.len r49 : Int) : Int) ≤ 5)) (v := .bool false) rfl hc54 rfl) ?_
              exact GL.jump (fun _ _ h => h) false h ⟨rfl, rfl, rfl, trivial⟩
          intro b51 H59 h
          replace h := hR53 b51 H59 h
          refine GL.val trivial rfl (OV.move (v := .bool b51) rfl) ?_
          obtain ⟨J61, h, hR62⟩ := h
          refine GL.cut (α := Bool) 6 J61 (fun b60 => [(104, .bool b60)]) ?_ ?_
          · rcases Bool.eq_false_or_eq_true b51 with hc63 | hc63
            · skip
              replace h := And.left h hc63
              refine GL.val ⟨_, _, rfl, rfl, hc63⟩ rfl (OV.move (v := sv p_s) rfl) ?_
              refine GL.call h ⟨_, _, rfl, rfl, hc63⟩ rfl ok_code_Str (vs := [slv Sl.nil, sv p_s]) rfl ?_
              rintro _ H65 ⟨r64, rfl, h⟩
              refine GL.val ⟨_, _, rfl, rfl, hc63⟩ rfl (OV.lenSl (s := r64) rfl rfl) ?_
              refine GL.val ⟨_, _, rfl, rfl, hc63⟩ rfl (OV.move (v := .int .i64 x37.1) rfl) ?_
              refine GL.val ⟨_, _, rfl, rfl, hc63⟩ rfl (OV.ibin (v := .bool (((Sl.len r64 : Int) : Int) == x37.1)) rfl rfl rfl) ?_
              refine GL.val trivial rfl (OV.pickT (b := b51) (v := .bool (((Sl.len r64 : Int) : Int) == x37.1)) rfl hc63 rfl) ?_
              exact GL.jump (fun _ _ h => h) (((Sl.len r64 : Int) : Int) == x37.1) h ⟨rfl, trivial⟩
            · skip
              replace h := And.right h hc63
              refine GL.skip ⟨_, rfl, .inl ⟨_, rfl, hc63⟩⟩ rfl ?_
              refine GL.skip ⟨_, rfl, .inl ⟨_, rfl, hc63⟩⟩ rfl ?_
              refine GL.skip ⟨_, rfl, .inl ⟨_, rfl, hc63⟩⟩ rfl ?_
              refine GL.skip ⟨_, rfl, .inl ⟨_, rfl, hc63⟩⟩ rfl ?_
              refine GL.skip ⟨_, rfl, .inl ⟨_, rfl, hc63⟩⟩ rfl ?_
              refine GL.val trivial rfl (OV.pickF (b := b51) (v := .bool false) rfl hc63 rfl) ?_
              exact GL.jump (fun _ _ h => h) false h ⟨rfl, trivial⟩
          intro b60 H66 h
          replace h := hR62 b60 H66 h
          refine GL.val trivial rfl (OV.assign (v := .bool b60) rfl) ?_
          refine GL.nil ?_
          exact GC.ret (fun _ _ hf hs => post_tmp1 rfl rfl hf hs ⟨b60, rfl, h⟩)

def sh_law03_works (C : Ctx) (K : Bool → Heap → Prop) (H : Heap) : Prop :=
  c_code_Count C Sl.nil 300 (fun r1 H2 =>
 c_code_Num C r1 (-1) (fun r3 H4 =>
 c_code_Str C r3 [97, 0] (fun r5 H6 =>
 c_code_Flag C r5 true (fun r7 H8 =>
 c_code_NewReader C r7 (fun r9 H10 =>
 b2s r7 (fun t11 =>
 jn (α := Bool) (fun b14 H20 =>
 jn (α := Bool) (fun b21 H27 =>
 jn (α := Bool) (fun b28 H34 =>
 jn (α := Bool) (fun b35 H41 =>
 jn (α := Bool) (fun b42 H48 =>
 jn (α := Bool) (fun b49 H55 =>
 K b49 H55)
 (fun J50 => ift b42
 (c_code_Reader_Done C r9 (fun r53 H54 =>
 J50 r53 H54) H48)
 (J50 false H48)))
 (fun J43 => ift b35
 (c_code_Reader_Flag C r9 (fun r46 H47 =>
 J43 r46 H47) H41)
 (J43 false H41)))
 (fun J36 => ift b28
 (c_code_Reader_Done C r9 (fun r39 H40 =>
 J36 (!r39) H40) H34)
 (J36 false H34)))
 (fun J29 => ift b21
 (c_code_Reader_Str C r9 2 (fun r32 H33 =>
 J29 (r32 == ([97, 0] : Str)) H33) H27)
 (J29 false H27)))
 (fun J22 => ift b14
 (c_code_Reader_Num C r9 (fun r25 H26 =>
 J22 ((r25 : Int) == (-1)) H26) H20)
 (J22 false H20)))
 (fun J15 => ift (t11 == ([2, 1, 44, 127, 97, 0, 255, 0, 0, 1] : Str))
 (c_code_Reader_Count C r9 300 (fun r18 H19 =>
 J15 ((r18 : Int) == 300) H19) H10)
 (J15 false H10))) H10) H8) H6) H4) H2) H

theorem ad_law03_works (C : Ctx) (K : Bool → Heap → Prop) (H : Heap) (h : sh_law03_works C  K H) : c_law03_works C  K H := by
  refine Spec.enter Try.func5 rfl Try.ntmps5 rfl ?_
  refine GC.sub [] trivial ?_
  refine GC.seq ?_
  refine GC.region ?_
  refine GL.val trivial rfl (OV.assign (v := .bool false) rfl) ?_
  refine GL.nil ?_
  refine GC.seq ?_
  refine GC.region ?_
  refine GL.call h trivial rfl ok_code_Count (vs := [slv Sl.nil, .int .i64 300]) rfl ?_
  rintro _ H2 ⟨r1, rfl, h⟩
  refine GL.call h trivial rfl ok_code_Num (vs := [slv r1, .int .i64 (-1)]) rfl ?_
  rintro _ H4 ⟨r3, rfl, h⟩
  refine GL.call h trivial rfl ok_code_Str (vs := [slv r3, sv [97, 0]]) rfl ?_
  rintro _ H6 ⟨r5, rfl, h⟩
  refine GL.call h trivial rfl ok_code_Flag (vs := [slv r5, .bool true]) rfl ?_
  rintro _ H8 ⟨r7, rfl, h⟩
  refine GL.val trivial rfl (OV.assign (v := slv r7) rfl) ?_
  refine GL.nil ?_
  refine GC.seq ?_
  refine GC.region ?_
  refine GL.val trivial rfl (OV.move (v := slv r7) rfl) ?_
  refine GL.call h trivial rfl ok_code_NewReader (vs := [slv r7]) rfl ?_
  rintro _ H10 ⟨r9, rfl, h⟩
  refine GL.val trivial rfl (OV.assign (v := pv r9) rfl) ?_
  refine GL.nil ?_
  refine GC.seq ?_
  refine GC.region ?_
  refine GL.val trivial rfl (OV.move (v := slv r7) rfl) ?_
  obtain ⟨t11, h12, h13, h⟩ := h
  refine GL.val trivial rfl (OV.b2s (b := r7) (s := t11) h12 h13 rfl rfl rfl rfl) ?_
  refine GL.val trivial rfl (OV.sbin (a := t11) (b := ([2, 1, 44, 127, 97, 0, 255, 0, 0, 1] : Str)) (v := .bool (t11 == ([2, 1, 44, 127, 97, 0, 255, 0, 0, 1] : Str))) rfl rfl rfl) ?_
  refine GL.val trivial rfl (OV.move (v := .bool (t11 == ([2, 1, 44, 127, 97, 0, 255, 0, 0, 1] : Str))) rfl) ?_
  obtain ⟨J15, h, hR16⟩ := h
  refine GL.cut (α := Bool) 4 J15 (fun b14 => [(16, .bool b14), (2, pv r9)]) ?_ ?_
  · rcases Bool.eq_false_or_eq_true (t11 == ([2, 1, 44, 127, 97, 0, 255, 0, 0, 1] : Str)) with hc17 | hc17
    · skip
      replace h := And.left h hc17
      refine GL.val ⟨_, _, rfl, rfl, hc17⟩ rfl (OV.move (v := pv r9) rfl) ?_
      refine GL.call h ⟨_, _, rfl, rfl, hc17⟩ rfl ok_code_Reader_Count (vs := [pv r9, .int .i64 300]) rfl ?_
      rintro _ H19 ⟨r18, rfl, h⟩
      refine GL.val ⟨_, _, rfl, rfl, hc17⟩ rfl (OV.ibin (v := .bool ((r18 : Int) == 300)) rfl rfl rfl) ?_
      refine GL.val trivial rfl (OV.pickT (b := t11 == ([2, 1, 44, 127, 97, 0, 255, 0, 0, 1] : Str)) (v := .bool ((r18 : Int) == 300)) rfl hc17 rfl) ?_
      exact GL.jump (fun _ _ h => h) ((r18 : Int) == 300) h ⟨rfl, rfl, trivial⟩
    · skip
      replace h := And.right h hc17
      refine GL.skip ⟨_, rfl, .inl ⟨_, rfl, hc17⟩⟩ rfl ?_
      refine GL.skip ⟨_, rfl, .inl ⟨_, rfl, hc17⟩⟩ rfl ?_
      refine GL.skip ⟨_, rfl, .inl ⟨_, rfl, hc17⟩⟩ rfl ?_
      refine GL.val trivial rfl (OV.pickF (b := t11 == ([2, 1, 44, 127, 97, 0, 255, 0, 0, 1] : Str)) (v := .bool false) rfl hc17 rfl) ?_
      exact GL.jump (fun _ _ h => h) false h ⟨rfl, rfl, trivial⟩
  intro b14 H20 h
  replace h := hR16 b14 H20 h
  refine GL.val trivial rfl (OV.move (v := .bool b14) rfl) ?_
  obtain ⟨J22, h, hR23⟩ := h
  refine GL.cut (α := Bool) 4 J22 (fun b21 => [(21, .bool b21), (2, pv r9)]) ?_ ?_
  · rcases Bool.eq_false_or_eq_true b14 with hc24 | hc24
    · skip
      replace h := And.left h hc24
      refine GL.val ⟨_, _, rfl, rfl, hc24⟩ rfl (OV.move (v := pv r9) rfl) ?_
      refine GL.call h ⟨_, _, rfl, rfl, hc24⟩ rfl ok_code_Reader_Num (vs := [pv r9]) rfl ?_
      rintro _ H26 ⟨r25, rfl, h⟩
      refine GL.val ⟨_, _, rfl, rfl, hc24⟩ rfl (OV.ibin (v := .bool ((r25 : Int) == (-1))) rfl rfl rfl) ?_
      refine GL.val trivial rfl (OV.pickT (b := b14) (v := .bool ((r25 : Int) == (-1))) rfl hc24 rfl) ?_
      exact GL.jump (fun _ _ h => h) ((r25 : Int) == (-1)) h ⟨rfl, rfl, trivial⟩
    · skip
      replace h := And.right h hc24
      refine GL.skip ⟨_, rfl, .inl ⟨_, rfl, hc24⟩⟩ rfl ?_
      refine GL.skip ⟨_, rfl, .inl ⟨_, rfl, hc24⟩⟩ rfl ?_
      refine GL.skip ⟨_, rfl, .inl ⟨_, rfl, hc24⟩⟩ rfl ?_
      refine GL.val trivial rfl (OV.pickF (b := b14) (v := .bool false) rfl hc24 rfl) ?_
      exact GL.jump (fun _ _ h => h) false h ⟨rfl, rfl, trivial⟩
  intro b21 H27 h
  replace h := hR23 b21 H27 h
  refine GL.val trivial rfl (OV.move (v := .bool b21) rfl) ?_
  obtain ⟨J29, h, hR30⟩ := h
  refine GL.cut (α := Bool) 4 J29 (fun b28 => [(26, .bool b28), (2, pv r9)]) ?_ ?_
  · rcases Bool.eq_false_or_eq_true b21 with hc31 | hc31
    · skip
      replace h := And.left h hc31
      refine GL.val ⟨_, _, rfl, rfl, hc31⟩ rfl (OV.move (v := pv r9) rfl) ?_
      refine GL.call h ⟨_, _, rfl, rfl, hc31⟩ rfl ok_code_Reader_Str (vs := [pv r9, .int .i64 2]) rfl ?_
      rintro _ H33 ⟨r32, rfl, h⟩
      refine GL.val ⟨_, _, rfl, rfl, hc31⟩ rfl (OV.sbin (a := r32) (b := ([97, 0] : Str)) (v := .bool (r32 == ([97, 0] : Str))) rfl rfl rfl) ?_
      refine GL.val trivial rfl (OV.pickT (b := b21) (v := .bool (r32 == ([97, 0] : Str))) rfl hc31 rfl) ?_
      exact GL.jump (fun _ _ h => h) (r32 == ([97, 0] : Str)) h ⟨rfl, rfl, trivial⟩
    · skip
      replace h := And.right h hc31
      refine GL.skip ⟨_, rfl, .inl ⟨_, rfl, hc31⟩⟩ rfl ?_
      refine GL.skip ⟨_, rfl, .inl ⟨_, rfl, hc31⟩⟩ rfl ?_
      refine GL.skip ⟨_, rfl, .inl ⟨_, rfl, hc31⟩⟩ rfl ?_
      refine GL.val trivial rfl (OV.pickF (b := b21) (v := .bool false) rfl hc31 rfl) ?_
      exact GL.jump (fun _ _ h => h) false h ⟨rfl, rfl, trivial⟩
  intro b28 H34 h
  replace h := hR30 b28 H34 h
  refine GL.val trivial rfl (OV.move (v := .bool b28) rfl) ?_
  obtain ⟨J36, h, hR37⟩ := h
  refine GL.cut (α := Bool) 4 J36 (fun b35 => [(31, .bool b35), (2, pv r9)]) ?_ ?_
  · rcases Bool.eq_false_or_eq_true b28 with hc38 | hc38
    · skip
      replace h := And.left h hc38
      refine GL.val ⟨_, _, rfl, rfl, hc38⟩ rfl (OV.move (v := pv r9) rfl) ?_
      refine GL.call h ⟨_, _, rfl, rfl, hc38⟩ rfl ok_code_Reader_Done (vs := [pv r9]) rfl ?_
      rintro _ H40 ⟨r39, rfl, h⟩
      refine GL.val ⟨_, _, rfl, rfl, hc38⟩ rfl (OV.not rfl) ?_
      refine GL.val trivial rfl (OV.pickT (b := b28) (v := .bool (!r39)) rfl hc38 rfl) ?_
      exact GL.jump (fun _ _ h => h) (!r39) h ⟨rfl, rfl, trivial⟩
    · skip
      replace h := And.right h hc38
      refine GL.skip ⟨_, rfl, .inl ⟨_, rfl, hc38⟩⟩ rfl ?_
      refine GL.skip ⟨_, rfl, .inl ⟨_, rfl, hc38⟩⟩ rfl ?_
      refine GL.skip ⟨_, rfl, .inl ⟨_, rfl, hc38⟩⟩ rfl ?_
      refine GL.val trivial rfl (OV.pickF (b := b28) (v := .bool false) rfl hc38 rfl) ?_
      exact GL.jump (fun _ _ h => h) false h ⟨rfl, rfl, trivial⟩
  intro b35 H41 h
  replace h := hR37 b35 H41 h
  refine GL.val trivial rfl (OV.move (v := .bool b35) rfl) ?_
  obtain ⟨J43, h, hR44⟩ := h
  refine GL.cut (α := Bool) 3 J43 (fun b42 => [(35, .bool b42), (2, pv r9)]) ?_ ?_
  · rcases Bool.eq_false_or_eq_true b35 with hc45 | hc45
    · skip
      replace h := And.left h hc45
      refine GL.val ⟨_, _, rfl, rfl, hc45⟩ rfl (OV.move (v := pv r9) rfl) ?_
      refine GL.call h ⟨_, _, rfl, rfl, hc45⟩ rfl ok_code_Reader_Flag (vs := [pv r9]) rfl ?_
      rintro _ H47 ⟨r46, rfl, h⟩
      refine GL.val trivial rfl (OV.pickT (b := b35) (v := .bool r46) rfl hc45 rfl) ?_
      exact GL.jump (fun _ _ h => h) r46 h ⟨rfl, rfl, trivial⟩
    · skip
      replace h := And.right h hc45
      refine GL.skip ⟨_, rfl, .inl ⟨_, rfl, hc45⟩⟩ rfl ?_
      refine GL.skip ⟨_, rfl, .inl ⟨_, rfl, hc45⟩⟩ rfl ?_
      refine GL.val trivial rfl (OV.pickF (b := b35) (v := .bool false) rfl hc45 rfl) ?_
      exact GL.jump (fun _ _ h => h) false h ⟨rfl, rfl, trivial⟩
  intro b42 H48 h
  replace h := hR44 b42 H48 h
  refine GL.val trivial rfl (OV.move (v := .bool b42) rfl) ?_
  obtain ⟨J50, h, hR51⟩ := h
  refine GL.cut (α := Bool) 3 J50 (fun b49 => [(39, .bool b49)]) ?_ ?_
  · rcases Bool.eq_false_or_eq_true b42 with hc52 | hc52
    · skip
      replace h := And.left h hc52
      refine GL.val ⟨_, _, rfl, rfl, hc52⟩ rfl (OV.move (v := pv r9) rfl) ?_
      refine GL.call h ⟨_, _, rfl, rfl, hc52⟩ rfl ok_code_Reader_Done (vs := [pv r9]) rfl ?_
      rintro _ H54 ⟨r53, rfl, h⟩
      refine GL.val trivial rfl (OV.pickT (b := b42) (v := .bool r53) rfl hc52 rfl) ?_
      exact GL.jump (fun _ _ h => h) r53 h ⟨rfl, trivial⟩
    · skip
      replace h := And.right h hc52
      refine GL.skip ⟨_, rfl, .inl ⟨_, rfl, hc52⟩⟩ rfl ?_
      refine GL.skip ⟨_, rfl, .inl ⟨_, rfl, hc52⟩⟩ rfl ?_
      refine GL.val trivial rfl (OV.pickF (b := b42) (v := .bool false) rfl hc52 rfl) ?_
      exact GL.jump (fun _ _ h => h) false h ⟨rfl, trivial⟩
  intro b49 H55 h
  replace h := hR51 b49 H55 h
  refine GL.val trivial rfl (OV.assign (v := .bool b49) rfl) ?_
  refine GL.nil ?_
  exact GC.ret (fun _ _ hf hs => post_tmp1 rfl rfl hf hs ⟨b49, rfl, h⟩)

def sh_law03_behind (C : Ctx) (p_a : Sl) (p_b : Sl) (K : Sl → Heap → Prop) (H : Heap) : Prop :=
  nw ([]) (fun b1 H2 =>
 apS ([.int .u8 0]) 1 (Sl.of (some (b1, 0)) 0 0) p_a (fun r3 H4 =>
 apS ([.int .u8 0]) 1 r3 p_b (fun r5 H6 =>
 K r5 H6) H4) H2) H

theorem ad_law03_behind (C : Ctx) (p_a : Sl) (p_b : Sl) (K : Sl → Heap → Prop) (H : Heap) (h : sh_law03_behind C p_a p_b K H) : c_law03_behind C p_a p_b K H := by
  refine Spec.enter Try.func6 rfl Try.ntmps6 rfl ?_
  refine GC.sub [(0, slv p_a), (1, slv p_b)] ⟨rfl, rfl, trivial⟩ ?_
  refine GC.seq ?_
  refine GC.region ?_
  refine GL.val trivial rfl (OV.assign (v := slv Sl.nil) rfl) ?_
  refine GL.nil ?_
  refine GC.seq ?_
  refine GC.region ?_
  refine GL.buildSlice (cs := []) h trivial rfl (vs := []) rfl ⟨5, fun _ => by kernel_rfl⟩ ?_
  intro b1 H2 h
  refine GL.val trivial rfl (OV.move (v := slv p_a) rfl) ?_
  refine GL.appendS (s := (Sl.of (some (b1, 0)) 0 0)) (s2 := p_a) (zc := [.int .u8 0]) (bytes := 1) h trivial rfl rfl rfl ⟨⟨_, _, _, rfl, rfl, rfl, rfl, rfl, rfl⟩⟩ rfl ?_
  intro r3 H4 h
  refine GL.val trivial rfl (OV.move (v := slv p_b) rfl) ?_
  refine GL.appendS (s := r3) (s2 := p_b) (zc := [.int .u8 0]) (bytes := 1) h trivial rfl rfl rfl ⟨⟨_, _, _, rfl, rfl, rfl, rfl, rfl, rfl⟩⟩ rfl ?_
  intro r5 H6 h
  refine GL.val trivial rfl (OV.assign (v := slv r5) rfl) ?_
  refine GL.nil ?_
  exact GC.ret (fun _ _ hf hs => post_tmp1 rfl rfl hf hs ⟨r5, rfl, h⟩)

def sh_code_Num (C : Ctx) (p_b : Sl) (p_n : Int) (K : Sl → Heap → Prop) (H : Heap) : Prop :=
  c_code_behind C p_b (fun r1 H2 =>
 c_code_pen_num C r1 p_n (fun H3 =>
 nck r1 fun p4 =>
 ldL H3 (p4.1, p4.2 + 0) fun x6 =>
 K x6 H3) H2) H

theorem ad_code_Num (C : Ctx) (p_b : Sl) (p_n : Int) (K : Sl → Heap → Prop) (H : Heap) (h : sh_code_Num C p_b p_n K H) : c_code_Num C p_b p_n K H := by
  refine Spec.enter Try.func7 rfl Try.ntmps7 rfl ?_
  refine GC.sub [(0, slv p_b), (1, .int .i64 p_n)] ⟨rfl, rfl, trivial⟩ ?_
  refine GC.seq ?_
  refine GC.region ?_
  refine GL.val trivial rfl (OV.assign (v := slv Sl.nil) rfl) ?_
  refine GL.nil ?_
  refine GC.seq ?_
  refine GC.region ?_
  refine GL.val trivial rfl (OV.move (v := slv p_b) rfl) ?_
  refine GL.call h trivial rfl ok_code_behind (vs := [slv p_b]) rfl ?_
  rintro _ H2 ⟨r1, rfl, h⟩
  refine GL.val trivial rfl (OV.assign (v := pv r1) rfl) ?_
  refine GL.nil ?_
  refine GC.seq ?_
  refine GC.region ?_
  refine GL.val trivial rfl (OV.move (v := pv r1) rfl) ?_
  refine GL.val trivial rfl (OV.move (v := .int .i64 p_n) rfl) ?_
  refine GL.call h trivial rfl ok_code_pen_num (vs := [pv r1, .int .i64 p_n]) rfl ?_
  rintro _ H3 ⟨rfl, h⟩
  refine GL.nil ?_
  refine GC.seq ?_
  refine GC.region ?_
  refine GL.val trivial rfl (OV.move (v := pv r1) rfl) ?_
  obtain ⟨p4, hp5, h⟩ := h
  refine GL.val trivial rfl (OV.nilCheck (q := r1) rfl hp5) ?_
  refine GL.val trivial rfl (OV.fieldAddr (p := p4) rfl rfl) ?_
  obtain ⟨x6, hr7, h⟩ := h
  refine GL.val trivial rfl (OV.load (p := (p4.1, p4.2 + 0)) rfl rfl hr7) ?_
  refine GL.val trivial rfl (OV.assign (v := slv x6) rfl) ?_
  refine GL.nil ?_
  exact GC.ret (fun _ _ hf hs => post_tmp1 rfl rfl hf hs ⟨x6, rfl, h⟩)

def sh_code_Count (C : Ctx) (p_b : Sl) (p_n : Int) (K : Sl → Heap → Prop) (H : Heap) : Prop :=
  c_code_behind C p_b (fun r1 H2 =>
 jn (α := Unit) (fun x4 H5 =>
 nck r1 fun p10 =>
 ldL H5 (p10.1, p10.2 + 0) fun x12 =>
 K x12 H5)
 (fun J3 => ift ((decide ((p_n : Int) ≥ 0)) && (decide ((p_n : Int) ≤ 2147483647)))
 (c_code_pen_number C r1 0 (w .u64 p_n) (fun H9 =>
 J3 () H9) H2)
 (J3 () H2))) H

theorem ad_code_Count (C : Ctx) (p_b : Sl) (p_n : Int) (K : Sl → Heap → Prop) (H : Heap) (h : sh_code_Count C p_b p_n K H) : c_code_Count C p_b p_n K H := by
  refine Spec.enter Try.func8 rfl Try.ntmps8 rfl ?_
  refine GC.sub [(0, slv p_b), (1, .int .i64 p_n)] ⟨rfl, rfl, trivial⟩ ?_
  refine GC.seq ?_
  refine GC.region ?_
  refine GL.val trivial rfl (OV.assign (v := slv Sl.nil) rfl) ?_
  refine GL.nil ?_
  refine GC.seq ?_
  refine GC.region ?_
  refine GL.val trivial rfl (OV.move (v := slv p_b) rfl) ?_
  refine GL.call h trivial rfl ok_code_behind (vs := [slv p_b]) rfl ?_
  rintro _ H2 ⟨r1, rfl, h⟩
  refine GL.val trivial rfl (OV.assign (v := pv r1) rfl) ?_
  refine GL.nil ?_
  obtain ⟨J3, h, hR6⟩ := h
  refine GC.join (α := Unit) J3 (fun _ => [(5, pv r1)]) ?_ ?_
  · skip
    refine GC.seq ?_
    refine GC.region ?_
    refine GL.val trivial rfl (OV.move (v := .int .i64 p_n) rfl) ?_
    refine GL.val trivial rfl (OV.ibin (v := .bool (decide ((p_n : Int) ≥ 0))) rfl rfl rfl) ?_
    refine GL.val trivial rfl (OV.move (v := .bool (decide ((p_n : Int) ≥ 0))) rfl) ?_
    refine GL.cut0 3 [(13, .bool ((decide ((p_n : Int) ≥ 0)) && (decide ((p_n : Int) ≤ 2147483647)))), (1, .int .i64 p_n), (5, pv r1)] ?_ ?_
    · rcases Bool.eq_false_or_eq_true (decide ((p_n : Int) ≥ 0)) with hc7 | hc7
      · skip
        refine GL.val ⟨_, _, rfl, rfl, hc7⟩ rfl (OV.move (v := .int .i64 p_n) rfl) ?_
        refine GL.val ⟨_, _, rfl, rfl, hc7⟩ rfl (OV.ibin (v := .bool (decide ((p_n : Int) ≤ 2147483647))) rfl rfl rfl) ?_
        refine GL.val trivial rfl (OV.pickT (b := decide ((p_n : Int) ≥ 0)) (v := .bool (decide ((p_n : Int) ≤ 2147483647))) rfl hc7 rfl) ?_
        exact GL.jump0 (fun _ _ h => h) () rfl ⟨(by rw [hc7]; rfl), rfl, rfl, trivial⟩
      · skip
        refine GL.skip ⟨_, rfl, .inl ⟨_, rfl, hc7⟩⟩ rfl ?_
        refine GL.skip ⟨_, rfl, .inl ⟨_, rfl, hc7⟩⟩ rfl ?_
        refine GL.val trivial rfl (OV.pickF (b := decide ((p_n : Int) ≥ 0)) (v := .bool false) rfl hc7 rfl) ?_
        exact GL.jump0 (fun _ _ h => h) () rfl ⟨(by rw [hc7]; rfl), rfl, rfl, trivial⟩
    refine GL.nil ?_
    refine GC.cond (b := (decide ((p_n : Int) ≥ 0)) && (decide ((p_n : Int) ≤ 2147483647))) rfl (fun hc8 => ?_) (fun hc8 => ?_)
    · replace h := And.left h hc8
      refine GC.region ?_
      refine GL.val trivial rfl (OV.move (v := pv r1) rfl) ?_
      refine GL.val trivial rfl (OV.move (v := .int .i64 p_n) rfl) ?_
      refine GL.val trivial rfl (OV.convInt rfl rfl rfl) ?_
      refine GL.call h trivial rfl ok_code_pen_number (vs := [pv r1, .int .u8 0, .int .u64 (w .u64 p_n)]) rfl ?_
      rintro _ H9 ⟨rfl, h⟩
      exact GL.jump (fun _ _ h => h) () h ⟨rfl, trivial⟩
    · replace h := And.right h hc8
      exact GC.jump (fun _ _ h => h) () h ⟨rfl, trivial⟩
  · intro x4 H5 h
    replace h := hR6 x4 H5 h
    refine GC.seq ?_
    refine GC.region ?_
    refine GL.val trivial rfl (OV.move (v := pv r1) rfl) ?_
    obtain ⟨p10, hp11, h⟩ := h
    refine GL.val trivial rfl (OV.nilCheck (q := r1) rfl hp11) ?_
    refine GL.val trivial rfl (OV.fieldAddr (p := p10) rfl rfl) ?_
    obtain ⟨x12, hr13, h⟩ := h
    refine GL.val trivial rfl (OV.load (p := (p10.1, p10.2 + 0)) rfl rfl hr13) ?_
    refine GL.val trivial rfl (OV.assign (v := slv x12) rfl) ?_
    refine GL.nil ?_
    exact GC.ret (fun _ _ hf hs => post_tmp1 rfl rfl hf hs ⟨x12, rfl, h⟩)

def sh_code_Str (C : Ctx) (p_b : Sl) (p_s : Str) (K : Sl → Heap → Prop) (H : Heap) : Prop :=
  c_code_behind C p_b (fun r1 H2 =>
 c_code_pen_text C r1 p_s (fun H3 =>
 nck r1 fun p4 =>
 ldL H3 (p4.1, p4.2 + 0) fun x6 =>
 K x6 H3) H2) H

theorem ad_code_Str (C : Ctx) (p_b : Sl) (p_s : Str) (K : Sl → Heap → Prop) (H : Heap) (h : sh_code_Str C p_b p_s K H) : c_code_Str C p_b p_s K H := by
  refine Spec.enter Try.func9 rfl Try.ntmps9 rfl ?_
  refine GC.sub [(0, slv p_b), (1, sv p_s)] ⟨rfl, rfl, trivial⟩ ?_
  refine GC.seq ?_
  refine GC.region ?_
  refine GL.val trivial rfl (OV.assign (v := slv Sl.nil) rfl) ?_
  refine GL.nil ?_
  refine GC.seq ?_
  refine GC.region ?_
  refine GL.val trivial rfl (OV.move (v := slv p_b) rfl) ?_
  refine GL.call h trivial rfl ok_code_behind (vs := [slv p_b]) rfl ?_
  rintro _ H2 ⟨r1, rfl, h⟩
  refine GL.val trivial rfl (OV.assign (v := pv r1) rfl) ?_
  refine GL.nil ?_
  refine GC.seq ?_
  refine GC.region ?_
  refine GL.val trivial rfl (OV.move (v := pv r1) rfl) ?_
  refine GL.val trivial rfl (OV.move (v := sv p_s) rfl) ?_
  refine GL.call h trivial rfl ok_code_pen_text (vs := [pv r1, sv p_s]) rfl ?_
  rintro _ H3 ⟨rfl, h⟩
  refine GL.nil ?_
  refine GC.seq ?_
  refine GC.region ?_
  refine GL.val trivial rfl (OV.move (v := pv r1) rfl) ?_
  obtain ⟨p4, hp5, h⟩ := h
  refine GL.val trivial rfl (OV.nilCheck (q := r1) rfl hp5) ?_
  refine GL.val trivial rfl (OV.fieldAddr (p := p4) rfl rfl) ?_
  obtain ⟨x6, hr7, h⟩ := h
  refine GL.val trivial rfl (OV.load (p := (p4.1, p4.2 + 0)) rfl rfl hr7) ?_
  refine GL.val trivial rfl (OV.assign (v := slv x6) rfl) ?_
  refine GL.nil ?_
  exact GC.ret (fun _ _ hf hs => post_tmp1 rfl rfl hf hs ⟨x6, rfl, h⟩)

def sh_law03_stands (C : Ctx) (p_a : Sl) (p_b : Sl) (K : Int → Heap → Prop) (H : Heap) : Prop :=
  b2s p_a (fun t1 =>
 b2s p_b (fun t4 =>
 ift (slt t1 t4)
 (K (-1) H)
 (b2s p_a (fun t8 =>
 b2s p_b (fun t11 =>
 ift (!(slt t8 t11 || (t8 == t11)))
 (K 1 H)
 (K 0 H)) H) H)) H) H

theorem ad_law03_stands (C : Ctx) (p_a : Sl) (p_b : Sl) (K : Int → Heap → Prop) (H : Heap) (h : sh_law03_stands C p_a p_b K H) : c_law03_stands C p_a p_b K H := by
  refine Spec.enter Try.func10 rfl Try.ntmps10 rfl ?_
  refine GC.sub [(0, slv p_a), (1, slv p_b)] ⟨rfl, rfl, trivial⟩ ?_
  refine GC.seq ?_
  refine GC.region ?_
  refine GL.val trivial rfl (OV.assign (v := .int .i64 0) rfl) ?_
  refine GL.nil ?_
  refine GC.seq ?_
  refine GC.seq ?_
  refine GC.region ?_
  refine GL.val trivial rfl (OV.move (v := slv p_a) rfl) ?_
  obtain ⟨t1, h2, h3, h⟩ := h
  refine GL.val trivial rfl (OV.b2s (b := p_a) (s := t1) h2 h3 rfl rfl rfl rfl) ?_
  refine GL.val trivial rfl (OV.move (v := slv p_b) rfl) ?_
  obtain ⟨t4, h5, h6, h⟩ := h
  refine GL.val trivial rfl (OV.b2s (b := p_b) (s := t4) h5 h6 rfl rfl rfl rfl) ?_
  refine GL.val trivial rfl (OV.sbin (a := t1) (b := t4) (v := .bool (slt t1 t4)) rfl rfl rfl) ?_
  refine GL.nil ?_
  refine GC.cond (b := slt t1 t4) rfl (fun hc7 => ?_) (fun hc7 => ?_)
  · replace h := And.left h hc7
    refine GC.seq ?_
    refine GC.region ?_
    refine GL.val trivial rfl (OV.assign (v := .int .i64 (-1)) rfl) ?_
    refine GL.nil ?_
    exact GC.ret (fun _ _ hf hs => post_tmp1 rfl rfl hf hs ⟨(-1), rfl, h⟩)
  · replace h := And.right h hc7
    refine GC.skip ?_
    refine GC.seq ?_
    refine GC.seq ?_
    refine GC.region ?_
    refine GL.val trivial rfl (OV.move (v := slv p_a) rfl) ?_
    obtain ⟨t8, h9, h10, h⟩ := h
    refine GL.val trivial rfl (OV.b2s (b := p_a) (s := t8) h9 h10 rfl rfl rfl rfl) ?_
    refine GL.val trivial rfl (OV.move (v := slv p_b) rfl) ?_
    obtain ⟨t11, h12, h13, h⟩ := h
    refine GL.val trivial rfl (OV.b2s (b := p_b) (s := t11) h12 h13 rfl rfl rfl rfl) ?_
    refine GL.val trivial rfl (OV.sbin (a := t8) (b := t11) (v := .bool (!(slt t8 t11 || (t8 == t11)))) rfl rfl rfl) ?_
    refine GL.nil ?_
    refine GC.cond (b := !(slt t8 t11 || (t8 == t11))) rfl (fun hc14 => ?_) (fun hc14 => ?_)
    · replace h := And.left h hc14
      refine GC.seq ?_
      refine GC.region ?_
      refine GL.val trivial rfl (OV.assign (v := .int .i64 1) rfl) ?_
      refine GL.nil ?_
      exact GC.ret (fun _ _ hf hs => post_tmp1 rfl rfl hf hs ⟨1, rfl, h⟩)
    · replace h := And.right h hc14
      refine GC.skip ?_
      refine GC.seq ?_
      refine GC.region ?_
      refine GL.val trivial rfl (OV.assign (v := .int .i64 0) rfl) ?_
      refine GL.nil ?_
      exact GC.ret (fun _ _ hf hs => post_tmp1 rfl rfl hf hs ⟨0, rfl, h⟩)

def sh_code_Flag (C : Ctx) (p_b : Sl) (p_v : Bool) (K : Sl → Heap → Prop) (H : Heap) : Prop :=
  c_code_behind C p_b (fun r1 H2 =>
 jn (α := Unit) (fun x4 H5 =>
 nck r1 fun p14 =>
 ldL H5 (p14.1, p14.2 + 0) fun x16 =>
 K x16 H5)
 (fun J3 => ift p_v
 (nw ([.int .u8 1]) (fun b8 H9 =>
 c_code_pen_put C r1 (Sl.of (some (b8, 0)) 1 1) (fun H10 =>
 J3 () H10) H9) H2)
 (nw ([.int .u8 0]) (fun b11 H12 =>
 c_code_pen_put C r1 (Sl.of (some (b11, 0)) 1 1) (fun H13 =>
 J3 () H13) H12) H2))) H

theorem ad_code_Flag (C : Ctx) (p_b : Sl) (p_v : Bool) (K : Sl → Heap → Prop) (H : Heap) (h : sh_code_Flag C p_b p_v K H) : c_code_Flag C p_b p_v K H := by
  refine Spec.enter Try.func11 rfl Try.ntmps11 rfl ?_
  refine GC.sub [(0, slv p_b), (1, .bool p_v)] ⟨rfl, rfl, trivial⟩ ?_
  refine GC.seq ?_
  refine GC.region ?_
  refine GL.val trivial rfl (OV.assign (v := slv Sl.nil) rfl) ?_
  refine GL.nil ?_
  refine GC.seq ?_
  refine GC.region ?_
  refine GL.val trivial rfl (OV.move (v := slv p_b) rfl) ?_
  refine GL.call h trivial rfl ok_code_behind (vs := [slv p_b]) rfl ?_
  rintro _ H2 ⟨r1, rfl, h⟩
  refine GL.val trivial rfl (OV.assign (v := pv r1) rfl) ?_
  refine GL.nil ?_
  obtain ⟨J3, h, hR6⟩ := h
  refine GC.join (α := Unit) J3 (fun _ => [(5, pv r1)]) ?_ ?_
  · skip
    refine GC.seq ?_
    refine GC.region ?_
    refine GL.val trivial rfl (OV.move (v := .bool p_v) rfl) ?_
    refine GL.nil ?_
    refine GC.cond (b := p_v) rfl (fun hc7 => ?_) (fun hc7 => ?_)
    · replace h := And.left h hc7
      refine GC.region ?_
      refine GL.val trivial rfl (OV.move (v := pv r1) rfl) ?_
      refine GL.buildSlice (cs := [.int .u8 1]) h trivial rfl (vs := [(0, .int .u8 1)]) rfl ⟨5, fun _ => by kernel_rfl⟩ ?_
      intro b8 H9 h
      refine GL.call h trivial rfl ok_code_pen_put (vs := [pv r1, slv (Sl.of (some (b8, 0)) 1 1)]) rfl ?_
      rintro _ H10 ⟨rfl, h⟩
      exact GL.jump (fun _ _ h => h) () h ⟨rfl, trivial⟩
    · replace h := And.right h hc7
      refine GC.region ?_
      refine GL.val trivial rfl (OV.move (v := pv r1) rfl) ?_
      refine GL.buildSlice (cs := [.int .u8 0]) h trivial rfl (vs := [(0, .int .u8 0)]) rfl ⟨5, fun _ => by kernel_rfl⟩ ?_
      intro b11 H12 h
      refine GL.call h trivial rfl ok_code_pen_put (vs := [pv r1, slv (Sl.of (some (b11, 0)) 1 1)]) rfl ?_
      rintro _ H13 ⟨rfl, h⟩
      exact GL.jump (fun _ _ h => h) () h ⟨rfl, trivial⟩
  · intro x4 H5 h
    replace h := hR6 x4 H5 h
    refine GC.seq ?_
    refine GC.region ?_
    refine GL.val trivial rfl (OV.move (v := pv r1) rfl) ?_
    obtain ⟨p14, hp15, h⟩ := h
    refine GL.val trivial rfl (OV.nilCheck (q := r1) rfl hp15) ?_
    refine GL.val trivial rfl (OV.fieldAddr (p := p14) rfl rfl) ?_
    obtain ⟨x16, hr17, h⟩ := h
    refine GL.val trivial rfl (OV.load (p := (p14.1, p14.2 + 0)) rfl rfl hr17) ?_
    refine GL.val trivial rfl (OV.assign (v := slv x16) rfl) ?_
    refine GL.nil ?_
    exact GC.ret (fun _ _ hf hs => post_tmp1 rfl rfl hf hs ⟨x16, rfl, h⟩)

def sh_code_NewReader (C : Ctx) (p_b : Sl) (K : Option (Nat × Nat) → Heap → Prop) (H : Heap) : Prop :=
  c_slices_Clone_byte_byte C p_b (fun r1 H2 =>
 nw (T_code_Reader.c (⟨r1, 0, false⟩ : T_code_Reader)) (fun b3 H4 =>
 K (some (b3, 0)) H4) H2) H

theorem ad_code_NewReader (C : Ctx) (p_b : Sl) (K : Option (Nat × Nat) → Heap → Prop) (H : Heap) (h : sh_code_NewReader C p_b K H) : c_code_NewReader C p_b K H := by
  refine Spec.enter Try.func12 rfl Try.ntmps12 rfl ?_
  refine GC.sub [(0, slv p_b)] ⟨rfl, trivial⟩ ?_
  refine GC.seq ?_
  refine GC.region ?_
  refine GL.val trivial rfl (OV.assign (v := pv none) rfl) ?_
  refine GL.nil ?_
  refine GC.seq ?_
  refine GC.region ?_
  refine GL.val trivial rfl (OV.move (v := slv p_b) rfl) ?_
  refine GL.call h trivial rfl ok_slices_Clone_byte_byte (vs := [slv p_b]) rfl ?_
  rintro _ H2 ⟨r1, rfl, h⟩
  refine GL.val trivial rfl (OV.build (vs := [(0, slv r1)]) (v := .agg (T_code_Reader.c (⟨r1, 0, false⟩ : T_code_Reader)).toArray) rfl (fun _ => by kernel_rfl)) ?_
  refine GL.box (v := .agg (T_code_Reader.c (⟨r1, 0, false⟩ : T_code_Reader)).toArray) (cs := T_code_Reader.c (⟨r1, 0, false⟩ : T_code_Reader)) h trivial rfl rfl rfl ?_
  intro b3 H4 h
  refine GL.val trivial rfl (OV.assign (v := pv (some (b3, 0))) rfl) ?_
  refine GL.nil ?_
  exact GC.ret (fun _ _ hf hs => post_tmp1 rfl rfl hf hs ⟨(some (b3, 0)), rfl, h⟩)

def sh_code_Reader_Count (C : Ctx) (p_r : Option (Nat × Nat)) (p_most : Int) (K : Int → Heap → Prop) (H : Heap) : Prop :=
  ift (Option.isNone p_r)
 (K 0 H)
 (c_code_Reader_next C p_r (fun r2 H3 =>
 c_code_Reader_number C p_r (w .i64 r2) 4 (fun r4 H5 =>
 c_code_Reader_ask C p_r (((decide ((p_most : Int) ≥ 0)) && (decide ((r4 : Int) ≤ 2147483647))) && (decide (((w .i64 r4) : Int) ≤ p_most))) (fun r8 H9 =>
 ift (!r8)
 (K 0 H9)
 (K (w .i64 r4) H9)) H5) H3) H)

theorem ad_code_Reader_Count (C : Ctx) (p_r : Option (Nat × Nat)) (p_most : Int) (K : Int → Heap → Prop) (H : Heap) (h : sh_code_Reader_Count C p_r p_most K H) : c_code_Reader_Count C p_r p_most K H := by
  refine Spec.enter Try.func13 rfl Try.ntmps13 rfl ?_
  refine GC.sub [(0, pv p_r), (1, .int .i64 p_most)] ⟨rfl, rfl, trivial⟩ ?_
  refine GC.seq ?_
  refine GC.region ?_
  refine GL.val trivial rfl (OV.assign (v := .int .i64 0) rfl) ?_
  refine GL.nil ?_
  refine GC.seq ?_
  refine GC.seq ?_
  refine GC.region ?_
  refine GL.val trivial rfl (OV.move (v := pv p_r) rfl) ?_
  refine GL.val trivial rfl (OV.eqlNil (p := p_r) rfl rfl rfl) ?_
  refine GL.nil ?_
  refine GC.cond (b := Option.isNone p_r) rfl (fun hc1 => ?_) (fun hc1 => ?_)
  · replace h := And.left h hc1
    refine GC.seq ?_
    refine GC.region ?_
    refine GL.val trivial rfl (OV.assign (v := .int .i64 0) rfl) ?_
    refine GL.nil ?_
    exact GC.ret (fun _ _ hf hs => post_tmp1 rfl rfl hf hs ⟨0, rfl, h⟩)
  · replace h := And.right h hc1
    refine GC.skip ?_
    refine GC.seq ?_
    refine GC.region ?_
    refine GL.val trivial rfl (OV.move (v := pv p_r) rfl) ?_
    refine GL.val trivial rfl (OV.move (v := pv p_r) rfl) ?_
    refine GL.call h trivial rfl ok_code_Reader_next (vs := [pv p_r]) rfl ?_
    rintro _ H3 ⟨r2, rfl, h⟩
    refine GL.val trivial rfl (OV.convInt rfl rfl rfl) ?_
    refine GL.call h trivial rfl ok_code_Reader_number (vs := [pv p_r, .int .i64 (w .i64 r2), .int .i64 4]) rfl ?_
    rintro _ H5 ⟨r4, rfl, h⟩
    refine GL.val trivial rfl (OV.assign (v := .int .u64 r4) rfl) ?_
    refine GL.nil ?_
    refine GC.seq ?_
    refine GC.seq ?_
    refine GC.region ?_
    refine GL.val trivial rfl (OV.move (v := pv p_r) rfl) ?_
    refine GL.val trivial rfl (OV.move (v := .int .i64 p_most) rfl) ?_
    refine GL.val trivial rfl (OV.ibin (v := .bool (decide ((p_most : Int) ≥ 0))) rfl rfl rfl) ?_
    refine GL.val trivial rfl (OV.move (v := .bool (decide ((p_most : Int) ≥ 0))) rfl) ?_
    refine GL.cut0 3 [(19, .bool ((decide ((p_most : Int) ≥ 0)) && (decide ((r4 : Int) ≤ 2147483647)))), (1, .int .i64 p_most), (5, .int .u64 r4), (13, pv p_r)] ?_ ?_
    · rcases Bool.eq_false_or_eq_true (decide ((p_most : Int) ≥ 0)) with hc6 | hc6
      · skip
        refine GL.val ⟨_, _, rfl, rfl, hc6⟩ rfl (OV.move (v := .int .u64 r4) rfl) ?_
        refine GL.val ⟨_, _, rfl, rfl, hc6⟩ rfl (OV.ibin (v := .bool (decide ((r4 : Int) ≤ 2147483647))) rfl rfl rfl) ?_
        refine GL.val trivial rfl (OV.pickT (b := decide ((p_most : Int) ≥ 0)) (v := .bool (decide ((r4 : Int) ≤ 2147483647))) rfl hc6 rfl) ?_
        exact GL.jump0 (fun _ _ h => h) () rfl ⟨(by rw [hc6]; rfl), rfl, rfl, rfl, trivial⟩
      · skip
        refine GL.skip ⟨_, rfl, .inl ⟨_, rfl, hc6⟩⟩ rfl ?_
        refine GL.skip ⟨_, rfl, .inl ⟨_, rfl, hc6⟩⟩ rfl ?_
        refine GL.val trivial rfl (OV.pickF (b := decide ((p_most : Int) ≥ 0)) (v := .bool false) rfl hc6 rfl) ?_
        exact GL.jump0 (fun _ _ h => h) () rfl ⟨(by rw [hc6]; rfl), rfl, rfl, rfl, trivial⟩
    refine GL.val trivial rfl (OV.move (v := .bool ((decide ((p_most : Int) ≥ 0)) && (decide ((r4 : Int) ≤ 2147483647)))) rfl) ?_
    refine GL.cut0 5 [(25, .bool (((decide ((p_most : Int) ≥ 0)) && (decide ((r4 : Int) ≤ 2147483647))) && (decide (((w .i64 r4) : Int) ≤ p_most)))), (5, .int .u64 r4), (13, pv p_r)] ?_ ?_
    · rcases Bool.eq_false_or_eq_true ((decide ((p_most : Int) ≥ 0)) && (decide ((r4 : Int) ≤ 2147483647))) with hc7 | hc7
      · skip
        refine GL.val ⟨_, _, rfl, rfl, hc7⟩ rfl (OV.move (v := .int .u64 r4) rfl) ?_
        refine GL.val ⟨_, _, rfl, rfl, hc7⟩ rfl (OV.convInt rfl rfl rfl) ?_
        refine GL.val ⟨_, _, rfl, rfl, hc7⟩ rfl (OV.move (v := .int .i64 p_most) rfl) ?_
        refine GL.val ⟨_, _, rfl, rfl, hc7⟩ rfl (OV.ibin (v := .bool (decide (((w .i64 r4) : Int) ≤ p_most))) rfl rfl rfl) ?_
        refine GL.val trivial rfl (OV.pickT (b := (decide ((p_most : Int) ≥ 0)) && (decide ((r4 : Int) ≤ 2147483647))) (v := .bool (decide (((w .i64 r4) : Int) ≤ p_most))) rfl hc7 rfl) ?_
        exact GL.jump0 (fun _ _ h => h) () rfl ⟨(by rw [hc7]; rfl), rfl, rfl, trivial⟩
      · skip
        refine GL.skip ⟨_, rfl, .inl ⟨_, rfl, hc7⟩⟩ rfl ?_
        refine GL.skip ⟨_, rfl, .inl ⟨_, rfl, hc7⟩⟩ rfl ?_
        refine GL.skip ⟨_, rfl, .inl ⟨_, rfl, hc7⟩⟩ rfl ?_
        refine GL.skip ⟨_, rfl, .inl ⟨_, rfl, hc7⟩⟩ rfl ?_
        refine GL.val trivial rfl (OV.pickF (b := (decide ((p_most : Int) ≥ 0)) && (decide ((r4 : Int) ≤ 2147483647))) (v := .bool false) rfl hc7 rfl) ?_
        exact GL.jump0 (fun _ _ h => h) () rfl ⟨(by rw [hc7]; rfl), rfl, rfl, trivial⟩
    refine GL.call h trivial rfl ok_code_Reader_ask (vs := [pv p_r, .bool (((decide ((p_most : Int) ≥ 0)) && (decide ((r4 : Int) ≤ 2147483647))) && (decide (((w .i64 r4) : Int) ≤ p_most)))]) rfl ?_
    rintro _ H9 ⟨r8, rfl, h⟩
    refine GL.val trivial rfl (OV.not rfl) ?_
    refine GL.nil ?_
    refine GC.cond (b := !r8) rfl (fun hc10 => ?_) (fun hc10 => ?_)
    · replace h := And.left h hc10
      refine GC.seq ?_
      refine GC.region ?_
      refine GL.val trivial rfl (OV.assign (v := .int .i64 0) rfl) ?_
      refine GL.nil ?_
      exact GC.ret (fun _ _ hf hs => post_tmp1 rfl rfl hf hs ⟨0, rfl, h⟩)
    · replace h := And.right h hc10
      refine GC.skip ?_
      refine GC.seq ?_
      refine GC.region ?_
      refine GL.val trivial rfl (OV.move (v := .int .u64 r4) rfl) ?_
      refine GL.val trivial rfl (OV.convInt rfl rfl rfl) ?_
      refine GL.val trivial rfl (OV.assign (v := .int .i64 (w .i64 r4)) rfl) ?_
      refine GL.nil ?_
      exact GC.ret (fun _ _ hf hs => post_tmp1 rfl rfl hf hs ⟨(w .i64 r4), rfl, h⟩)

def sh_code_Reader_Num (C : Ctx) (p_r : Option (Nat × Nat)) (K : Int → Heap → Prop) (H : Heap) : Prop :=
  ift (Option.isNone p_r)
 (K 0 H)
 (c_code_Reader_next C p_r (fun r2 H3 =>
 jn (α := Int) (fun x5 H6 =>
 c_code_Reader_flip C p_r (decide ((r2 : Int) < 128)) (fun H9 =>
 c_code_Reader_number C p_r (w .i64 ((w .i64 x5) - 128)) 8 (fun r10 H11 =>
 c_code_Reader_flip C p_r (decide ((r2 : Int) < 128)) (fun H12 =>
 c_code_Reader_ask C p_r (decide ((r10 : Int) ≤ 9223372036854775807)) (fun r13 H14 =>
 ift (!r13)
 (K 0 H14)
 (ift (decide ((r2 : Int) < 128))
 (K (bXor .i64 (-1) (w .i64 r10)) H14)
 (K (w .i64 r10) H14))) H12) H11) H9) H6)
 (fun J4 => ift (decide ((r2 : Int) < 128))
 (J4 (bXor .u8 (255) r2) H3)
 (J4 r2 H3))) H)

theorem ad_code_Reader_Num (C : Ctx) (p_r : Option (Nat × Nat)) (K : Int → Heap → Prop) (H : Heap) (h : sh_code_Reader_Num C p_r K H) : c_code_Reader_Num C p_r K H := by
  refine Spec.enter Try.func14 rfl Try.ntmps14 rfl ?_
  refine GC.sub [(0, pv p_r)] ⟨rfl, trivial⟩ ?_
  refine GC.seq ?_
  refine GC.region ?_
  refine GL.val trivial rfl (OV.assign (v := .int .i64 0) rfl) ?_
  refine GL.nil ?_
  refine GC.seq ?_
  refine GC.seq ?_
  refine GC.region ?_
  refine GL.val trivial rfl (OV.move (v := pv p_r) rfl) ?_
  refine GL.val trivial rfl (OV.eqlNil (p := p_r) rfl rfl rfl) ?_
  refine GL.nil ?_
  refine GC.cond (b := Option.isNone p_r) rfl (fun hc1 => ?_) (fun hc1 => ?_)
  · replace h := And.left h hc1
    refine GC.seq ?_
    refine GC.region ?_
    refine GL.val trivial rfl (OV.assign (v := .int .i64 0) rfl) ?_
    refine GL.nil ?_
    exact GC.ret (fun _ _ hf hs => post_tmp1 rfl rfl hf hs ⟨0, rfl, h⟩)
  · replace h := And.right h hc1
    refine GC.skip ?_
    refine GC.seq ?_
    refine GC.region ?_
    refine GL.val trivial rfl (OV.move (v := pv p_r) rfl) ?_
    refine GL.call h trivial rfl ok_code_Reader_next (vs := [pv p_r]) rfl ?_
    rintro _ H3 ⟨r2, rfl, h⟩
    refine GL.val trivial rfl (OV.assign (v := .int .u8 r2) rfl) ?_
    refine GL.nil ?_
    refine GC.seq ?_
    refine GC.region ?_
    refine GL.val trivial rfl (OV.move (v := .int .u8 r2) rfl) ?_
    refine GL.val trivial rfl (OV.ibin (v := .bool (decide ((r2 : Int) < 128))) rfl rfl rfl) ?_
    refine GL.val trivial rfl (OV.assign (v := .bool (decide ((r2 : Int) < 128))) rfl) ?_
    refine GL.nil ?_
    obtain ⟨J4, h, hR7⟩ := h
    refine GC.join (α := Int) J4 (fun x5 => [(3, .int .u8 x5), (0, pv p_r), (4, .bool (decide ((r2 : Int) < 128)))]) ?_ ?_
    · skip
      refine GC.seq ?_
      refine GC.region ?_
      refine GL.val trivial rfl (OV.move (v := .bool (decide ((r2 : Int) < 128))) rfl) ?_
      refine GL.nil ?_
      refine GC.cond (b := decide ((r2 : Int) < 128)) rfl (fun hc8 => ?_) (fun hc8 => ?_)
      · replace h := And.left h hc8
        refine GC.region ?_
        refine GL.val trivial rfl (OV.move (v := .int .u8 r2) rfl) ?_
        refine GL.val trivial rfl (OV.iun (v := .int .u8 (bXor .u8 (255) r2)) rfl rfl) ?_
        refine GL.val trivial rfl (OV.assign (v := .int .u8 (bXor .u8 (255) r2)) rfl) ?_
        exact GL.jump (fun _ _ h => h) (bXor .u8 (255) r2) h ⟨rfl, rfl, rfl, trivial⟩
      · replace h := And.right h hc8
        exact GC.jump (fun _ _ h => h) r2 h ⟨rfl, rfl, rfl, trivial⟩
    · intro x5 H6 h
      replace h := hR7 x5 H6 h
      refine GC.seq ?_
      refine GC.region ?_
      refine GL.val trivial rfl (OV.move (v := pv p_r) rfl) ?_
      refine GL.val trivial rfl (OV.move (v := .bool (decide ((r2 : Int) < 128))) rfl) ?_
      refine GL.call h trivial rfl ok_code_Reader_flip (vs := [pv p_r, .bool (decide ((r2 : Int) < 128))]) rfl ?_
      rintro _ H9 ⟨rfl, h⟩
      refine GL.nil ?_
      refine GC.seq ?_
      refine GC.region ?_
      refine GL.val trivial rfl (OV.move (v := pv p_r) rfl) ?_
      refine GL.val trivial rfl (OV.move (v := .int .u8 x5) rfl) ?_
      refine GL.val trivial rfl (OV.convInt rfl rfl rfl) ?_
      refine GL.val trivial rfl (OV.ibin (v := .int .i64 (w .i64 ((w .i64 x5) - 128))) rfl rfl rfl) ?_
      refine GL.call h trivial rfl ok_code_Reader_number (vs := [pv p_r, .int .i64 (w .i64 ((w .i64 x5) - 128)), .int .i64 8]) rfl ?_
      rintro _ H11 ⟨r10, rfl, h⟩
      refine GL.val trivial rfl (OV.assign (v := .int .u64 r10) rfl) ?_
      refine GL.nil ?_
      refine GC.seq ?_
      refine GC.region ?_
      refine GL.val trivial rfl (OV.move (v := pv p_r) rfl) ?_
      refine GL.val trivial rfl (OV.move (v := .bool (decide ((r2 : Int) < 128))) rfl) ?_
      refine GL.call h trivial rfl ok_code_Reader_flip (vs := [pv p_r, .bool (decide ((r2 : Int) < 128))]) rfl ?_
      rintro _ H12 ⟨rfl, h⟩
      refine GL.nil ?_
      refine GC.seq ?_
      refine GC.block ?_
      refine GC.seq ?_
      refine GC.region ?_
      refine GL.val trivial rfl (OV.move (v := pv p_r) rfl) ?_
      refine GL.val trivial rfl (OV.move (v := .int .u64 r10) rfl) ?_
      refine GL.val trivial rfl (OV.ibin (v := .bool (decide ((r10 : Int) ≤ 9223372036854775807))) rfl rfl rfl) ?_
      refine GL.call h trivial rfl ok_code_Reader_ask (vs := [pv p_r, .bool (decide ((r10 : Int) ≤ 9223372036854775807))]) rfl ?_
      rintro _ H14 ⟨r13, rfl, h⟩
      refine GL.val trivial rfl (OV.not rfl) ?_
      refine GL.val trivial rfl (OV.assign (v := .bool (!r13)) rfl) ?_
      refine GL.nil ?_
      refine GC.cond (b := !r13) rfl (fun hc15 => ?_) (fun hc15 => ?_)
      · replace h := And.left h hc15
        refine GC.seq ?_
        refine GC.region ?_
        refine GL.val trivial rfl (OV.assign (v := .int .i64 0) rfl) ?_
        refine GL.nil ?_
        exact GC.ret (fun _ _ hf hs => post_tmp1 rfl rfl hf hs ⟨0, rfl, h⟩)
      · replace h := And.right h hc15
        refine GC.seq ?_
        refine GC.region ?_
        refine GL.val trivial rfl (OV.move (v := .bool (decide ((r2 : Int) < 128))) rfl) ?_
        refine GL.val trivial rfl (OV.assign (v := .bool (decide ((r2 : Int) < 128))) rfl) ?_
        refine GL.nil ?_
        refine GC.cond (b := decide ((r2 : Int) < 128)) rfl (fun hc16 => ?_) (fun hc16 => ?_)
        · replace h := And.left h hc16
          refine GC.seq ?_
          refine GC.region ?_
          refine GL.val trivial rfl (OV.move (v := .int .u64 r10) rfl) ?_
          refine GL.val trivial rfl (OV.convInt rfl rfl rfl) ?_
          refine GL.val trivial rfl (OV.iun (v := .int .i64 (bXor .i64 (-1) (w .i64 r10))) rfl rfl) ?_
          refine GL.val trivial rfl (OV.assign (v := .int .i64 (bXor .i64 (-1) (w .i64 r10))) rfl) ?_
          refine GL.nil ?_
          exact GC.ret (fun _ _ hf hs => post_tmp1 rfl rfl hf hs ⟨(bXor .i64 (-1) (w .i64 r10)), rfl, h⟩)
        · replace h := And.right h hc16
          refine GC.skip_to (fun _ _ h => h) ?_
          refine GC.seq ?_
          refine GC.region ?_
          refine GL.val trivial rfl (OV.move (v := .int .u64 r10) rfl) ?_
          refine GL.val trivial rfl (OV.convInt rfl rfl rfl) ?_
          refine GL.val trivial rfl (OV.assign (v := .int .i64 (w .i64 r10)) rfl) ?_
          refine GL.nil ?_
          exact GC.ret (fun _ _ hf hs => post_tmp1 rfl rfl hf hs ⟨(w .i64 r10), rfl, h⟩)

def sh_code_Reader_Str (C : Ctx) (p_r : Option (Nat × Nat)) (p_most : Int) (K : Str → Heap → Prop) (H : Heap) : Prop :=
  jn (α := Unit) (fun x2 H3 =>
 K [] H3)
 (fun J1 => lp (α := Sl) Sl.nil H (fun x5 J6 H7 =>
 jn (α := Bool) (fun b8 H14 =>
 ift b8
 (c_code_Reader_next C p_r (fun r16 H17 =>
 jn (α := Unit) (fun x19 H20 =>
 apd ([.int .u8 0]) 1 x5 ([.int .u8 r16]) 1 (fun r33 H34 =>
 J6 r33 H34) H20)
 (fun J18 => ift ((r16 : Int) == 0)
 (c_code_Reader_next C p_r (fun r23 H24 =>
 c_code_Reader_ask C p_r (((r23 : Int) == 0) || ((r23 : Int) == 255)) (fun r26 H27 =>
 ift (!r26)
 (J1 () H27)
 (ift ((r23 : Int) == 0)
 (b2s x5 (fun t30 =>
 K t30 H27) H27)
 (J18 () H27))) H24) H17)
 (J18 () H17))) H14)
 (J1 () H14))
 (fun J9 => ift (!(Option.isNone p_r))
 (c_code_Reader_ask C p_r (decide (((Sl.len x5 : Int) : Int) ≤ p_most)) (fun r12 H13 =>
 J9 r12 H13) H7)
 (J9 false H7))))

theorem ad_code_Reader_Str (C : Ctx) (p_r : Option (Nat × Nat)) (p_most : Int) (K : Str → Heap → Prop) (H : Heap) (h : sh_code_Reader_Str C p_r p_most K H) : c_code_Reader_Str C p_r p_most K H := by
  refine Spec.enter Try.func15 rfl Try.ntmps15 rfl ?_
  refine GC.sub [(0, pv p_r), (1, .int .i64 p_most)] ⟨rfl, rfl, trivial⟩ ?_
  refine GC.seq ?_
  refine GC.region ?_
  refine GL.val trivial rfl (OV.assign (v := sv []) rfl) ?_
  refine GL.nil ?_
  refine GC.seq ?_
  refine GC.region ?_
  refine GL.val trivial rfl (OV.assign (v := slv Sl.nil) rfl) ?_
  refine GL.nil ?_
  obtain ⟨J1, h, hR4⟩ := h
  refine GC.join (α := Unit) J1 (fun _ => []) ?_ ?_
  · skip
    refine GC.block ?_
    refine GC.loop (α := Sl) h (fun x5 => [(5, slv x5), (0, pv p_r), (1, .int .i64 p_most)]) ⟨rfl, rfl, rfl, trivial⟩ ?_
    intro x5 H7 J6 h
    refine GC.seq ?_
    refine GC.seq ?_
    refine GC.region ?_
    refine GL.val trivial rfl (OV.move (v := pv p_r) rfl) ?_
    refine GL.val trivial rfl (OV.neqNil (p := p_r) rfl rfl rfl) ?_
    refine GL.val trivial rfl (OV.move (v := .bool (!(Option.isNone p_r))) rfl) ?_
    obtain ⟨J9, h, hR10⟩ := h
    refine GL.cut (α := Bool) 7 J9 (fun b8 => [(17, .bool b8), (0, pv p_r), (1, .int .i64 p_most), (5, slv x5)]) ?_ ?_
    · rcases Bool.eq_false_or_eq_true (!(Option.isNone p_r)) with hc11 | hc11
      · skip
        replace h := And.left h hc11
        refine GL.val ⟨_, _, rfl, rfl, hc11⟩ rfl (OV.move (v := pv p_r) rfl) ?_
        refine GL.val ⟨_, _, rfl, rfl, hc11⟩ rfl (OV.move (v := slv x5) rfl) ?_
        refine GL.val ⟨_, _, rfl, rfl, hc11⟩ rfl (OV.lenSl (s := x5) rfl rfl) ?_
        refine GL.val ⟨_, _, rfl, rfl, hc11⟩ rfl (OV.move (v := .int .i64 p_most) rfl) ?_
        refine GL.val ⟨_, _, rfl, rfl, hc11⟩ rfl (OV.ibin (v := .bool (decide (((Sl.len x5 : Int) : Int) ≤ p_most))) rfl rfl rfl) ?_
        refine GL.call h ⟨_, _, rfl, rfl, hc11⟩ rfl ok_code_Reader_ask (vs := [pv p_r, .bool (decide (((Sl.len x5 : Int) : Int) ≤ p_most))]) rfl ?_
        rintro _ H13 ⟨r12, rfl, h⟩
        refine GL.val trivial rfl (OV.pickT (b := !(Option.isNone p_r)) (v := .bool r12) rfl hc11 rfl) ?_
        exact GL.jump (fun _ _ h => h) r12 h ⟨rfl, rfl, rfl, rfl, trivial⟩
      · skip
        replace h := And.right h hc11
        refine GL.skip ⟨_, rfl, .inl ⟨_, rfl, hc11⟩⟩ rfl ?_
        refine GL.skip ⟨_, rfl, .inl ⟨_, rfl, hc11⟩⟩ rfl ?_
        refine GL.skip ⟨_, rfl, .inl ⟨_, rfl, hc11⟩⟩ rfl ?_
        refine GL.skip ⟨_, rfl, .inl ⟨_, rfl, hc11⟩⟩ rfl ?_
        refine GL.skip ⟨_, rfl, .inl ⟨_, rfl, hc11⟩⟩ rfl ?_
        refine GL.skip ⟨_, rfl, .inl ⟨_, rfl, hc11⟩⟩ rfl ?_
        refine GL.val trivial rfl (OV.pickF (b := !(Option.isNone p_r)) (v := .bool false) rfl hc11 rfl) ?_
        exact GL.jump (fun _ _ h => h) false h ⟨rfl, rfl, rfl, rfl, trivial⟩
    intro b8 H14 h
    replace h := hR10 b8 H14 h
    refine GL.nil ?_
    refine GC.cond (b := b8) rfl (fun hc15 => ?_) (fun hc15 => ?_)
    · replace h := And.left h hc15
      refine GC.skip ?_
      refine GC.block ?_
      refine GC.seq ?_
      refine GC.region ?_
      refine GL.val trivial rfl (OV.move (v := pv p_r) rfl) ?_
      refine GL.call h trivial rfl ok_code_Reader_next (vs := [pv p_r]) rfl ?_
      rintro _ H17 ⟨r16, rfl, h⟩
      refine GL.val trivial rfl (OV.assign (v := .int .u8 r16) rfl) ?_
      refine GL.nil ?_
      obtain ⟨J18, h, hR21⟩ := h
      refine GC.join (α := Unit) J18 (fun _ => [(0, pv p_r), (1, .int .i64 p_most), (5, slv x5), (6, .int .u8 r16)]) ?_ ?_
      · skip
        refine GC.seq ?_
        refine GC.region ?_
        refine GL.val trivial rfl (OV.move (v := .int .u8 r16) rfl) ?_
        refine GL.val trivial rfl (OV.ibin (v := .bool ((r16 : Int) == 0)) rfl rfl rfl) ?_
        refine GL.nil ?_
        refine GC.cond (b := (r16 : Int) == 0) rfl (fun hc22 => ?_) (fun hc22 => ?_)
        · replace h := And.left h hc22
          refine GC.seq ?_
          refine GC.region ?_
          refine GL.val trivial rfl (OV.move (v := pv p_r) rfl) ?_
          refine GL.call h trivial rfl ok_code_Reader_next (vs := [pv p_r]) rfl ?_
          rintro _ H24 ⟨r23, rfl, h⟩
          refine GL.val trivial rfl (OV.assign (v := .int .u8 r23) rfl) ?_
          refine GL.nil ?_
          refine GC.seq ?_
          refine GC.seq ?_
          refine GC.region ?_
          refine GL.val trivial rfl (OV.move (v := pv p_r) rfl) ?_
          refine GL.val trivial rfl (OV.move (v := .int .u8 r23) rfl) ?_
          refine GL.val trivial rfl (OV.ibin (v := .bool ((r23 : Int) == 0)) rfl rfl rfl) ?_
          refine GL.val trivial rfl (OV.move (v := .bool ((r23 : Int) == 0)) rfl) ?_
          refine GL.cut0 3 [(30, .bool (((r23 : Int) == 0) || ((r23 : Int) == 255))), (0, pv p_r), (1, .int .i64 p_most), (5, slv x5), (6, .int .u8 r16), (7, .int .u8 r23), (24, pv p_r)] ?_ ?_
          · rcases Bool.eq_false_or_eq_true ((r23 : Int) == 0) with hc25 | hc25
            · skip
              refine GL.skip ⟨_, rfl, .inl ⟨_, rfl, hc25⟩⟩ rfl ?_
              refine GL.skip ⟨_, rfl, .inl ⟨_, rfl, hc25⟩⟩ rfl ?_
              refine GL.val trivial rfl (OV.pickT (b := (r23 : Int) == 0) (v := .bool true) rfl hc25 rfl) ?_
              exact GL.jump0 (fun _ _ h => h) () rfl ⟨(by rw [hc25]; rfl), rfl, rfl, rfl, rfl, rfl, rfl, trivial⟩
            · skip
              refine GL.val ⟨_, _, rfl, rfl, hc25⟩ rfl (OV.move (v := .int .u8 r23) rfl) ?_
              refine GL.val ⟨_, _, rfl, rfl, hc25⟩ rfl (OV.ibin (v := .bool ((r23 : Int) == 255)) rfl rfl rfl) ?_
              refine GL.val trivial rfl (OV.pickF (b := (r23 : Int) == 0) (v := .bool ((r23 : Int) == 255)) rfl hc25 rfl) ?_
              exact GL.jump0 (fun _ _ h => h) () rfl ⟨(by rw [hc25]; rfl), rfl, rfl, rfl, rfl, rfl, rfl, trivial⟩
          refine GL.call h trivial rfl ok_code_Reader_ask (vs := [pv p_r, .bool (((r23 : Int) == 0) || ((r23 : Int) == 255))]) rfl ?_
          rintro _ H27 ⟨r26, rfl, h⟩
          refine GL.val trivial rfl (OV.not rfl) ?_
          refine GL.nil ?_
          refine GC.cond (b := !r26) rfl (fun hc28 => ?_) (fun hc28 => ?_)
          · replace h := And.left h hc28
            exact GC.exit_jump (fun _ _ h => h) () h trivial
          · replace h := And.right h hc28
            refine GC.skip ?_
            refine GC.seq ?_
            refine GC.region ?_
            refine GL.val trivial rfl (OV.move (v := .int .u8 r23) rfl) ?_
            refine GL.val trivial rfl (OV.ibin (v := .bool ((r23 : Int) == 0)) rfl rfl rfl) ?_
            refine GL.nil ?_
            refine GC.cond (b := (r23 : Int) == 0) rfl (fun hc29 => ?_) (fun hc29 => ?_)
            · replace h := And.left h hc29
              refine GC.seq ?_
              refine GC.region ?_
              refine GL.val trivial rfl (OV.move (v := slv x5) rfl) ?_
              obtain ⟨t30, h31, h32, h⟩ := h
              refine GL.val trivial rfl (OV.b2s (b := x5) (s := t30) h31 h32 rfl rfl rfl rfl) ?_
              refine GL.val trivial rfl (OV.assign (v := sv t30) rfl) ?_
              refine GL.nil ?_
              exact GC.ret (fun _ _ hf hs => post_tmp1 rfl rfl hf hs ⟨t30, rfl, h⟩)
            · replace h := And.right h hc29
              exact GC.jump (fun _ _ h => h) () h ⟨rfl, rfl, rfl, rfl, trivial⟩
        · replace h := And.right h hc22
          exact GC.jump (fun _ _ h => h) () h ⟨rfl, rfl, rfl, rfl, trivial⟩
      · intro x19 H20 h
        replace h := hR21 x19 H20 h
        refine GC.region ?_
        refine GL.val trivial rfl (OV.move (v := slv x5) rfl) ?_
        refine GL.val trivial rfl (OV.move (v := .int .u8 r16) rfl) ?_
        refine GL.appendLit (s := x5) (ys := [.int .u8 r16]) (zc := [.int .u8 0]) (bytes := 1) h trivial rfl (fun _ => trivial) rfl (fun _ => rfl) (fun _ => rfl) (vs := [(0, .int .u8 r16)]) rfl ⟨5, fun _ => by kernel_rfl⟩ ⟨⟨_, _, _, rfl, rfl, rfl, rfl, rfl, rfl⟩⟩ rfl rfl ?_
        intro _ r33 H34 h
        refine GL.val trivial rfl (OV.assign (v := slv r33) rfl) ?_
        exact GL.jump (fun _ _ h => h) r33 h ⟨rfl, rfl, rfl, trivial⟩
    · replace h := And.right h hc15
      exact GC.exit_jump (fun _ _ h => h) () h trivial
  · intro x2 H3 h
    replace h := hR4 x2 H3 h
    refine GC.seq ?_
    refine GC.region ?_
    refine GL.val trivial rfl (OV.assign (v := sv []) rfl) ?_
    refine GL.nil ?_
    exact GC.ret (fun _ _ hf hs => post_tmp1 rfl rfl hf hs ⟨[], rfl, h⟩)

def sh_code_Reader_Done (C : Ctx) (p_r : Option (Nat × Nat)) (K : Bool → Heap → Prop) (H : Heap) : Prop :=
  c_code_Reader_OK C p_r (fun r1 H2 =>
 jn (α := Bool) (fun b3 H9 =>
 K b3 H9)
 (fun J4 => ift r1
 (c_code_Reader_Left C p_r (fun r7 H8 =>
 J4 ((r7 : Int) == 0) H8) H2)
 (J4 false H2))) H

theorem ad_code_Reader_Done (C : Ctx) (p_r : Option (Nat × Nat)) (K : Bool → Heap → Prop) (H : Heap) (h : sh_code_Reader_Done C p_r K H) : c_code_Reader_Done C p_r K H := by
  refine Spec.enter Try.func16 rfl Try.ntmps16 rfl ?_
  refine GC.sub [(0, pv p_r)] ⟨rfl, trivial⟩ ?_
  refine GC.seq ?_
  refine GC.region ?_
  refine GL.val trivial rfl (OV.assign (v := .bool false) rfl) ?_
  refine GL.nil ?_
  refine GC.seq ?_
  refine GC.region ?_
  refine GL.val trivial rfl (OV.move (v := pv p_r) rfl) ?_
  refine GL.call h trivial rfl ok_code_Reader_OK (vs := [pv p_r]) rfl ?_
  rintro _ H2 ⟨r1, rfl, h⟩
  refine GL.val trivial rfl (OV.move (v := .bool r1) rfl) ?_
  obtain ⟨J4, h, hR5⟩ := h
  refine GL.cut (α := Bool) 4 J4 (fun b3 => [(9, .bool b3)]) ?_ ?_
  · rcases Bool.eq_false_or_eq_true r1 with hc6 | hc6
    · skip
      replace h := And.left h hc6
      refine GL.val ⟨_, _, rfl, rfl, hc6⟩ rfl (OV.move (v := pv p_r) rfl) ?_
      refine GL.call h ⟨_, _, rfl, rfl, hc6⟩ rfl ok_code_Reader_Left (vs := [pv p_r]) rfl ?_
      rintro _ H8 ⟨r7, rfl, h⟩
      refine GL.val ⟨_, _, rfl, rfl, hc6⟩ rfl (OV.ibin (v := .bool ((r7 : Int) == 0)) rfl rfl rfl) ?_
      refine GL.val trivial rfl (OV.pickT (b := r1) (v := .bool ((r7 : Int) == 0)) rfl hc6 rfl) ?_
      exact GL.jump (fun _ _ h => h) ((r7 : Int) == 0) h ⟨rfl, trivial⟩
    · skip
      replace h := And.right h hc6
      refine GL.skip ⟨_, rfl, .inl ⟨_, rfl, hc6⟩⟩ rfl ?_
      refine GL.skip ⟨_, rfl, .inl ⟨_, rfl, hc6⟩⟩ rfl ?_
      refine GL.skip ⟨_, rfl, .inl ⟨_, rfl, hc6⟩⟩ rfl ?_
      refine GL.val trivial rfl (OV.pickF (b := r1) (v := .bool false) rfl hc6 rfl) ?_
      exact GL.jump (fun _ _ h => h) false h ⟨rfl, trivial⟩
  intro b3 H9 h
  replace h := hR5 b3 H9 h
  refine GL.val trivial rfl (OV.assign (v := .bool b3) rfl) ?_
  refine GL.nil ?_
  exact GC.ret (fun _ _ hf hs => post_tmp1 rfl rfl hf hs ⟨b3, rfl, h⟩)

def sh_code_Reader_Flag (C : Ctx) (p_r : Option (Nat × Nat)) (K : Bool → Heap → Prop) (H : Heap) : Prop :=
  ift (Option.isNone p_r)
 (K false H)
 (c_code_Reader_next C p_r (fun r2 H3 =>
 c_code_Reader_ask C p_r (decide ((r2 : Int) ≤ 1)) (fun r4 H5 =>
 K (r4 && ((r2 : Int) == 1)) H5) H3) H)

theorem ad_code_Reader_Flag (C : Ctx) (p_r : Option (Nat × Nat)) (K : Bool → Heap → Prop) (H : Heap) (h : sh_code_Reader_Flag C p_r K H) : c_code_Reader_Flag C p_r K H := by
  refine Spec.enter Try.func17 rfl Try.ntmps17 rfl ?_
  refine GC.sub [(0, pv p_r)] ⟨rfl, trivial⟩ ?_
  refine GC.seq ?_
  refine GC.region ?_
  refine GL.val trivial rfl (OV.assign (v := .bool false) rfl) ?_
  refine GL.nil ?_
  refine GC.seq ?_
  refine GC.seq ?_
  refine GC.region ?_
  refine GL.val trivial rfl (OV.move (v := pv p_r) rfl) ?_
  refine GL.val trivial rfl (OV.eqlNil (p := p_r) rfl rfl rfl) ?_
  refine GL.nil ?_
  refine GC.cond (b := Option.isNone p_r) rfl (fun hc1 => ?_) (fun hc1 => ?_)
  · replace h := And.left h hc1
    refine GC.seq ?_
    refine GC.region ?_
    refine GL.val trivial rfl (OV.assign (v := .bool false) rfl) ?_
    refine GL.nil ?_
    exact GC.ret (fun _ _ hf hs => post_tmp1 rfl rfl hf hs ⟨false, rfl, h⟩)
  · replace h := And.right h hc1
    refine GC.skip ?_
    refine GC.seq ?_
    refine GC.region ?_
    refine GL.val trivial rfl (OV.move (v := pv p_r) rfl) ?_
    refine GL.call h trivial rfl ok_code_Reader_next (vs := [pv p_r]) rfl ?_
    rintro _ H3 ⟨r2, rfl, h⟩
    refine GL.val trivial rfl (OV.assign (v := .int .u8 r2) rfl) ?_
    refine GL.nil ?_
    refine GC.seq ?_
    refine GC.region ?_
    refine GL.val trivial rfl (OV.move (v := pv p_r) rfl) ?_
    refine GL.val trivial rfl (OV.move (v := .int .u8 r2) rfl) ?_
    refine GL.val trivial rfl (OV.ibin (v := .bool (decide ((r2 : Int) ≤ 1))) rfl rfl rfl) ?_
    refine GL.call h trivial rfl ok_code_Reader_ask (vs := [pv p_r, .bool (decide ((r2 : Int) ≤ 1))]) rfl ?_
    rintro _ H5 ⟨r4, rfl, h⟩
    refine GL.val trivial rfl (OV.move (v := .bool r4) rfl) ?_
    refine GL.cut0 3 [(15, .bool (r4 && ((r2 : Int) == 1)))] ?_ ?_
    · rcases Bool.eq_false_or_eq_true r4 with hc6 | hc6
      · skip
        refine GL.val ⟨_, _, rfl, rfl, hc6⟩ rfl (OV.move (v := .int .u8 r2) rfl) ?_
        refine GL.val ⟨_, _, rfl, rfl, hc6⟩ rfl (OV.ibin (v := .bool ((r2 : Int) == 1)) rfl rfl rfl) ?_
        refine GL.val trivial rfl (OV.pickT (b := r4) (v := .bool ((r2 : Int) == 1)) rfl hc6 rfl) ?_
        exact GL.jump0 (fun _ _ h => h) () rfl ⟨(by rw [hc6]; rfl), trivial⟩
      · skip
        refine GL.skip ⟨_, rfl, .inl ⟨_, rfl, hc6⟩⟩ rfl ?_
        refine GL.skip ⟨_, rfl, .inl ⟨_, rfl, hc6⟩⟩ rfl ?_
        refine GL.val trivial rfl (OV.pickF (b := r4) (v := .bool false) rfl hc6 rfl) ?_
        exact GL.jump0 (fun _ _ h => h) () rfl ⟨(by rw [hc6]; rfl), trivial⟩
    refine GL.val trivial rfl (OV.assign (v := .bool (r4 && ((r2 : Int) == 1))) rfl) ?_
    refine GL.nil ?_
    exact GC.ret (fun _ _ hf hs => post_tmp1 rfl rfl hf hs ⟨(r4 && ((r2 : Int) == 1)), rfl, h⟩)

def sh_code_behind (C : Ctx) (p_b : Sl) (K : Option (Nat × Nat) → Heap → Prop) (H : Heap) : Prop :=
  c_slices_Clone_byte_byte C p_b (fun r1 H2 =>
 nw (T_code_pen.c (⟨r1, 0⟩ : T_code_pen)) (fun b3 H4 =>
 K (some (b3, 0)) H4) H2) H

theorem ad_code_behind (C : Ctx) (p_b : Sl) (K : Option (Nat × Nat) → Heap → Prop) (H : Heap) (h : sh_code_behind C p_b K H) : c_code_behind C p_b K H := by
  refine Spec.enter Try.func18 rfl Try.ntmps18 rfl ?_
  refine GC.sub [(0, slv p_b)] ⟨rfl, trivial⟩ ?_
  refine GC.seq ?_
  refine GC.region ?_
  refine GL.val trivial rfl (OV.assign (v := pv none) rfl) ?_
  refine GL.nil ?_
  refine GC.seq ?_
  refine GC.region ?_
  refine GL.val trivial rfl (OV.move (v := slv p_b) rfl) ?_
  refine GL.call h trivial rfl ok_slices_Clone_byte_byte (vs := [slv p_b]) rfl ?_
  rintro _ H2 ⟨r1, rfl, h⟩
  refine GL.val trivial rfl (OV.build (vs := [(0, slv r1)]) (v := .agg (T_code_pen.c (⟨r1, 0⟩ : T_code_pen)).toArray) rfl (fun _ => by kernel_rfl)) ?_
  refine GL.box (v := .agg (T_code_pen.c (⟨r1, 0⟩ : T_code_pen)).toArray) (cs := T_code_pen.c (⟨r1, 0⟩ : T_code_pen)) h trivial rfl rfl rfl ?_
  intro b3 H4 h
  refine GL.val trivial rfl (OV.assign (v := pv (some (b3, 0))) rfl) ?_
  refine GL.nil ?_
  exact GC.ret (fun _ _ hf hs => post_tmp1 rfl rfl hf hs ⟨(some (b3, 0)), rfl, h⟩)

def sh_code_pen_num (C : Ctx) (p_p : Option (Nat × Nat)) (p_n : Int) (K : Heap → Prop) (H : Heap) : Prop :=
  jn (α := Int) (fun x2 H3 =>
 c_code_pen_flip C p_p (decide ((p_n : Int) < 0)) (fun H6 =>
 c_code_pen_number C p_p 128 (w .u64 x2) (fun H7 =>
 c_code_pen_flip C p_p (decide ((p_n : Int) < 0)) (fun H8 =>
 K H8) H7) H6) H3)
 (fun J1 => ift (decide ((p_n : Int) < 0))
 (J1 (bXor .i64 (-1) p_n) H)
 (J1 p_n H))

theorem ad_code_pen_num (C : Ctx) (p_p : Option (Nat × Nat)) (p_n : Int) (K : Heap → Prop) (H : Heap) (h : sh_code_pen_num C p_p p_n K H) : c_code_pen_num C p_p p_n K H := by
  refine Spec.enter Try.func19 rfl Try.ntmps19 rfl ?_
  refine GC.sub [(0, pv p_p), (1, .int .i64 p_n)] ⟨rfl, rfl, trivial⟩ ?_
  refine GC.seq ?_
  refine GC.region ?_
  refine GL.val trivial rfl (OV.move (v := .int .i64 p_n) rfl) ?_
  refine GL.val trivial rfl (OV.ibin (v := .bool (decide ((p_n : Int) < 0))) rfl rfl rfl) ?_
  refine GL.val trivial rfl (OV.assign (v := .bool (decide ((p_n : Int) < 0))) rfl) ?_
  refine GL.nil ?_
  obtain ⟨J1, h, hR4⟩ := h
  refine GC.join (α := Int) J1 (fun x2 => [(1, .int .i64 x2), (0, pv p_p), (4, .bool (decide ((p_n : Int) < 0)))]) ?_ ?_
  · skip
    refine GC.seq ?_
    refine GC.region ?_
    refine GL.val trivial rfl (OV.move (v := .bool (decide ((p_n : Int) < 0))) rfl) ?_
    refine GL.nil ?_
    refine GC.cond (b := decide ((p_n : Int) < 0)) rfl (fun hc5 => ?_) (fun hc5 => ?_)
    · replace h := And.left h hc5
      refine GC.region ?_
      refine GL.val trivial rfl (OV.move (v := .int .i64 p_n) rfl) ?_
      refine GL.val trivial rfl (OV.iun (v := .int .i64 (bXor .i64 (-1) p_n)) rfl rfl) ?_
      refine GL.val trivial rfl (OV.assign (v := .int .i64 (bXor .i64 (-1) p_n)) rfl) ?_
      exact GL.jump (fun _ _ h => h) (bXor .i64 (-1) p_n) h ⟨rfl, rfl, rfl, trivial⟩
    · replace h := And.right h hc5
      exact GC.jump (fun _ _ h => h) p_n h ⟨rfl, rfl, rfl, trivial⟩
  · intro x2 H3 h
    replace h := hR4 x2 H3 h
    refine GC.seq ?_
    refine GC.region ?_
    refine GL.val trivial rfl (OV.move (v := pv p_p) rfl) ?_
    refine GL.val trivial rfl (OV.move (v := .bool (decide ((p_n : Int) < 0))) rfl) ?_
    refine GL.call h trivial rfl ok_code_pen_flip (vs := [pv p_p, .bool (decide ((p_n : Int) < 0))]) rfl ?_
    rintro _ H6 ⟨rfl, h⟩
    refine GL.nil ?_
    refine GC.seq ?_
    refine GC.region ?_
    refine GL.val trivial rfl (OV.move (v := pv p_p) rfl) ?_
    refine GL.val trivial rfl (OV.move (v := .int .i64 x2) rfl) ?_
    refine GL.val trivial rfl (OV.convInt rfl rfl rfl) ?_
    refine GL.call h trivial rfl ok_code_pen_number (vs := [pv p_p, .int .u8 128, .int .u64 (w .u64 x2)]) rfl ?_
    rintro _ H7 ⟨rfl, h⟩
    refine GL.nil ?_
    refine GC.region ?_
    refine GL.val trivial rfl (OV.move (v := pv p_p) rfl) ?_
    refine GL.val trivial rfl (OV.move (v := .bool (decide ((p_n : Int) < 0))) rfl) ?_
    refine GL.call h trivial rfl ok_code_pen_flip (vs := [pv p_p, .bool (decide ((p_n : Int) < 0))]) rfl ?_
    rintro _ H8 ⟨rfl, h⟩
    exact GL.ends (fun _ _ hf hs => post_tmp0 rfl hf hs ⟨rfl, h⟩)

def sh_code_pen_number (C : Ctx) (p_p : Option (Nat × Nat)) (p_first : Int) (p_u : Int) (K : Heap → Prop) (H : Heap) : Prop :=
  c_math_bits_Len64 C p_u (fun r1 H2 =>
 nw ([.int .u8 (w .u8 (p_first + (w .u8 (w .i64 (Int.tdiv (w .i64 (r1 + 7)) 8)))))]) (fun b3 H4 =>
 c_code_pen_put C p_p (Sl.of (some (b3, 0)) 1 1) (fun H5 =>
 lp (α := Int) (w .i64 (Int.tdiv (w .i64 (r1 + 7)) 8)) H5 (fun x6 J7 H8 =>
 ift (decide ((x6 : Int) > 0))
 (0 ≤ (w .i64 (8 * (w .i64 (x6 - 1)))) ∧
 nw ([.int .u8 (w .u8 (sShr .u64 p_u (w .i64 (8 * (w .i64 (x6 - 1))))))]) (fun b11 H12 =>
 c_code_pen_put C p_p (Sl.of (some (b11, 0)) 1 1) (fun H13 =>
 J7 (w .i64 (x6 - 1)) H13) H12) H8)
 (K H8))) H4) H2) H

theorem ad_code_pen_number (C : Ctx) (p_p : Option (Nat × Nat)) (p_first : Int) (p_u : Int) (K : Heap → Prop) (H : Heap) (h : sh_code_pen_number C p_p p_first p_u K H) : c_code_pen_number C p_p p_first p_u K H := by
  refine Spec.enter Try.func20 rfl Try.ntmps20 rfl ?_
  refine GC.sub [(0, pv p_p), (1, .int .u8 p_first), (2, .int .u64 p_u)] ⟨rfl, rfl, rfl, trivial⟩ ?_
  refine GC.seq ?_
  refine GC.region ?_
  refine GL.val trivial rfl (OV.move (v := .int .u64 p_u) rfl) ?_
  refine GL.call h trivial rfl ok_math_bits_Len64 (vs := [.int .u64 p_u]) rfl ?_
  rintro _ H2 ⟨r1, rfl, h⟩
  refine GL.val trivial rfl (OV.ibin (v := .int .i64 (w .i64 (r1 + 7))) rfl rfl rfl) ?_
  refine GL.val trivial rfl (OV.quo rfl rfl (by decide)) ?_
  refine GL.val trivial rfl (OV.assign (v := .int .i64 (w .i64 (Int.tdiv (w .i64 (r1 + 7)) 8))) rfl) ?_
  refine GL.nil ?_
  refine GC.seq ?_
  refine GC.region ?_
  refine GL.val trivial rfl (OV.move (v := pv p_p) rfl) ?_
  refine GL.val trivial rfl (OV.move (v := .int .u8 p_first) rfl) ?_
  refine GL.val trivial rfl (OV.move (v := .int .i64 (w .i64 (Int.tdiv (w .i64 (r1 + 7)) 8))) rfl) ?_
  refine GL.val trivial rfl (OV.convInt rfl rfl rfl) ?_
  refine GL.val trivial rfl (OV.ibin (v := .int .u8 (w .u8 (p_first + (w .u8 (w .i64 (Int.tdiv (w .i64 (r1 + 7)) 8)))))) rfl rfl rfl) ?_
  refine GL.buildSlice (cs := [.int .u8 (w .u8 (p_first + (w .u8 (w .i64 (Int.tdiv (w .i64 (r1 + 7)) 8)))))]) h trivial rfl (vs := [(0, .int .u8 (w .u8 (p_first + (w .u8 (w .i64 (Int.tdiv (w .i64 (r1 + 7)) 8))))))]) rfl ⟨5, fun _ => by kernel_rfl⟩ ?_
  intro b3 H4 h
  refine GL.call h trivial rfl ok_code_pen_put (vs := [pv p_p, slv (Sl.of (some (b3, 0)) 1 1)]) rfl ?_
  rintro _ H5 ⟨rfl, h⟩
  refine GL.nil ?_
  refine GC.block ?_
  refine GC.loop (α := Int) h (fun x6 => [(6, .int .i64 x6), (0, pv p_p), (2, .int .u64 p_u)]) ⟨rfl, rfl, rfl, trivial⟩ ?_
  intro x6 H8 J7 h
  refine GC.seq ?_
  refine GC.seq ?_
  refine GC.region ?_
  refine GL.val trivial rfl (OV.move (v := .int .i64 x6) rfl) ?_
  refine GL.val trivial rfl (OV.ibin (v := .bool (decide ((x6 : Int) > 0))) rfl rfl rfl) ?_
  refine GL.nil ?_
  refine GC.cond (b := decide ((x6 : Int) > 0)) rfl (fun hc9 => ?_) (fun hc9 => ?_)
  · replace h := And.left h hc9
    refine GC.skip ?_
    refine GC.seq ?_
    refine GC.block ?_
    refine GC.region ?_
    refine GL.val trivial rfl (OV.move (v := pv p_p) rfl) ?_
    refine GL.val trivial rfl (OV.move (v := .int .u64 p_u) rfl) ?_
    refine GL.val trivial rfl (OV.move (v := .int .i64 x6) rfl) ?_
    refine GL.val trivial rfl (OV.ibin (v := .int .i64 (w .i64 (x6 - 1))) rfl rfl rfl) ?_
    refine GL.val trivial rfl (OV.ibin (v := .int .i64 (w .i64 (8 * (w .i64 (x6 - 1))))) rfl rfl rfl) ?_
    obtain ⟨hb10, h⟩ := h
    refine GL.val trivial rfl (OV.shr rfl rfl hb10) ?_
    refine GL.val trivial rfl (OV.convInt rfl rfl rfl) ?_
    refine GL.buildSlice (cs := [.int .u8 (w .u8 (sShr .u64 p_u (w .i64 (8 * (w .i64 (x6 - 1))))))]) h trivial rfl (vs := [(0, .int .u8 (w .u8 (sShr .u64 p_u (w .i64 (8 * (w .i64 (x6 - 1)))))))]) rfl ⟨5, fun _ => by kernel_rfl⟩ ?_
    intro b11 H12 h
    refine GL.call h trivial rfl ok_code_pen_put (vs := [pv p_p, slv (Sl.of (some (b11, 0)) 1 1)]) rfl ?_
    rintro _ H13 ⟨rfl, h⟩
    refine GL.nil_to (fun _ _ h => h) ?_
    refine GC.region ?_
    refine GL.val trivial rfl (OV.move (v := .int .i64 x6) rfl) ?_
    refine GL.val trivial rfl (OV.ibin (v := .int .i64 (w .i64 (x6 - 1))) rfl rfl rfl) ?_
    refine GL.val trivial rfl (OV.assign (v := .int .i64 (w .i64 (x6 - 1))) rfl) ?_
    exact GL.jump (fun _ _ h => h) (w .i64 (x6 - 1)) h ⟨rfl, rfl, rfl, trivial⟩
  · replace h := And.right h hc9
    exact GC.exit_ends (fun _ _ hf hs => post_tmp0 rfl hf hs ⟨rfl, h⟩)

def sh_code_pen_text (C : Ctx) (p_p : Option (Nat × Nat)) (p_s : Str) (K : Heap → Prop) (H : Heap) : Prop :=
  lp (α := Int) 0 H (fun x1 J2 H3 =>
 ift (decide ((x1 : Int) < (List.length p_s : Int)))
 (jn (α := Unit) (fun x6 H7 =>
 J2 (w .i64 (x1 + 1)) H7)
 (fun J5 => ixs p_s x1 fun c9 =>
 nw ([.int .u8 (c9.toNat : Int)]) (fun b12 H13 =>
 c_code_pen_put C p_p (Sl.of (some (b12, 0)) 1 1) (fun H14 =>
 ixs p_s x1 fun c15 =>
 ift (((c15.toNat : Int) : Int) == 0)
 (nw ([.int .u8 255]) (fun b19 H20 =>
 c_code_pen_put C p_p (Sl.of (some (b19, 0)) 1 1) (fun H21 =>
 J5 () H21) H20) H14)
 (J5 () H14)) H13) H3))
 (nw ([.int .u8 0, .int .u8 0]) (fun b22 H23 =>
 c_code_pen_put C p_p (Sl.of (some (b22, 0)) 2 2) (fun H24 =>
 K H24) H23) H3))

theorem ad_code_pen_text (C : Ctx) (p_p : Option (Nat × Nat)) (p_s : Str) (K : Heap → Prop) (H : Heap) (h : sh_code_pen_text C p_p p_s K H) : c_code_pen_text C p_p p_s K H := by
  refine Spec.enter Try.func21 rfl Try.ntmps21 rfl ?_
  refine GC.sub [(0, pv p_p), (1, sv p_s)] ⟨rfl, rfl, trivial⟩ ?_
  refine GC.seq ?_
  refine GC.seq ?_
  refine GC.region ?_
  refine GL.val trivial rfl (OV.move (v := sv p_s) rfl) ?_
  refine GL.val trivial rfl (OV.lenStr (s := p_s) rfl rfl) ?_
  refine GL.val trivial rfl (OV.move (v := .int .i64 0) rfl) ?_
  refine GL.nil ?_
  refine GC.block ?_
  refine GC.loop (α := Int) h (fun x1 => [(7, .int .i64 x1), (0, pv p_p), (1, sv p_s), (6, .int .i64 (List.length p_s : Int))]) ⟨rfl, rfl, rfl, rfl, trivial⟩ ?_
  intro x1 H3 J2 h
  refine GC.seq ?_
  refine GC.region ?_
  refine GL.val trivial rfl (OV.ibin (v := .bool (decide ((x1 : Int) < (List.length p_s : Int)))) rfl rfl rfl) ?_
  refine GL.nil ?_
  refine GC.seq ?_
  refine GC.cond (b := decide ((x1 : Int) < (List.length p_s : Int))) rfl (fun hc4 => ?_) (fun hc4 => ?_)
  · replace h := And.left h hc4
    refine GC.skip ?_
    obtain ⟨J5, h, hR8⟩ := h
    refine GC.join (α := Unit) J5 (fun _ => [(0, pv p_p), (1, sv p_s), (6, .int .i64 (List.length p_s : Int)), (7, .int .i64 x1)]) ?_ ?_
    · skip
      refine GC.block ?_
      refine GC.seq ?_
      refine GC.region ?_
      refine GL.val trivial rfl (OV.move (v := .int .i64 x1) rfl) ?_
      refine GL.val trivial rfl (OV.assign (v := .int .i64 x1) rfl) ?_
      refine GL.nil ?_
      refine GC.seq ?_
      refine GC.region ?_
      refine GL.val trivial rfl (OV.move (v := pv p_p) rfl) ?_
      refine GL.val trivial rfl (OV.move (v := sv p_s) rfl) ?_
      refine GL.val trivial rfl (OV.move (v := .int .i64 x1) rfl) ?_
      obtain ⟨c9, ha10, hb11, h⟩ := h
      refine GL.val trivial rfl (OV.indexStr (s := p_s) rfl rfl rfl ha10 hb11) ?_
      refine GL.buildSlice (cs := [.int .u8 (c9.toNat : Int)]) h trivial rfl (vs := [(0, .int .u8 (c9.toNat : Int))]) rfl ⟨5, fun _ => by kernel_rfl⟩ ?_
      intro b12 H13 h
      refine GL.call h trivial rfl ok_code_pen_put (vs := [pv p_p, slv (Sl.of (some (b12, 0)) 1 1)]) rfl ?_
      rintro _ H14 ⟨rfl, h⟩
      refine GL.nil ?_
      refine GC.seq ?_
      refine GC.region ?_
      refine GL.val trivial rfl (OV.move (v := sv p_s) rfl) ?_
      refine GL.val trivial rfl (OV.move (v := .int .i64 x1) rfl) ?_
      obtain ⟨c15, ha16, hb17, h⟩ := h
      refine GL.val trivial rfl (OV.indexStr (s := p_s) rfl rfl rfl ha16 hb17) ?_
      refine GL.val trivial rfl (OV.ibin (v := .bool (((c15.toNat : Int) : Int) == 0)) rfl rfl rfl) ?_
      refine GL.nil ?_
      refine GC.cond (b := ((c15.toNat : Int) : Int) == 0) rfl (fun hc18 => ?_) (fun hc18 => ?_)
      · replace h := And.left h hc18
        refine GC.region ?_
        refine GL.val trivial rfl (OV.move (v := pv p_p) rfl) ?_
        refine GL.buildSlice (cs := [.int .u8 255]) h trivial rfl (vs := [(0, .int .u8 255)]) rfl ⟨5, fun _ => by kernel_rfl⟩ ?_
        intro b19 H20 h
        refine GL.call h trivial rfl ok_code_pen_put (vs := [pv p_p, slv (Sl.of (some (b19, 0)) 1 1)]) rfl ?_
        rintro _ H21 ⟨rfl, h⟩
        exact GL.jump (fun _ _ h => h) () h ⟨rfl, rfl, rfl, rfl, trivial⟩
      · replace h := And.right h hc18
        exact GC.jump (fun _ _ h => h) () h ⟨rfl, rfl, rfl, rfl, trivial⟩
    · intro x6 H7 h
      replace h := hR8 x6 H7 h
      refine GC.region ?_
      refine GL.val trivial rfl (OV.ibin (v := .int .i64 (w .i64 (x1 + 1))) rfl rfl rfl) ?_
      refine GL.val trivial rfl (OV.move (v := .int .i64 (w .i64 (x1 + 1))) rfl) ?_
      exact GL.jump (fun _ _ h => h) (w .i64 (x1 + 1)) h ⟨rfl, rfl, rfl, rfl, trivial⟩
  · replace h := And.right h hc4
    refine GC.exit_to (fun _ _ h => h) ?_
    refine GC.region ?_
    refine GL.val trivial rfl (OV.move (v := pv p_p) rfl) ?_
    refine GL.buildSlice (cs := [.int .u8 0, .int .u8 0]) h trivial rfl (vs := [(0, .int .u8 0), (1, .int .u8 0)]) rfl ⟨5, fun _ => by kernel_rfl⟩ ?_
    intro b22 H23 h
    refine GL.call h trivial rfl ok_code_pen_put (vs := [pv p_p, slv (Sl.of (some (b22, 0)) 2 2)]) rfl ?_
    rintro _ H24 ⟨rfl, h⟩
    exact GL.ends (fun _ _ hf hs => post_tmp0 rfl hf hs ⟨rfl, h⟩)

def sh_code_pen_put (C : Ctx) (p_p : Option (Nat × Nat)) (p_l : Sl) (K : Heap → Prop) (H : Heap) : Prop :=
  lp (α := Int) 0 H (fun x1 J2 H3 =>
 ift (decide ((x1 : Int) < (Sl.len p_l : Int)))
 (ixa p_l x1 fun p5 =>
 ldI H3 .u8 (p5.1, p5.2 + (x1 : Int).toNat * 1) fun x10 =>
 dr H3 fun Hs12 =>
 nck p_p fun p14 =>
 ldL Hs12 (p14.1, p14.2 + 0) fun x16 =>
 nck p_p fun p18 =>
 ldI Hs12 .u8 (p18.1, p18.2 + 1) fun x20 =>
 nw ([.int .u8 (bXor .u8 x10 x20)]) (fun b23 H24 =>
 Heap.le Hs12 H24 ∧
 apS ([.int .u8 0]) 1 x16 (Sl.of (some (b23, 0)) 1 1) (fun r26 H27 =>
 Heap.le Hs12 H27 ∧
 nck p_p fun p28 =>
 st (p28.1, p28.2 + 0) (slv r26) (fun H30 =>
 J2 (w .i64 (x1 + 1)) H30) H27) H24) H3)
 (K H3))

theorem ad_code_pen_put (C : Ctx) (p_p : Option (Nat × Nat)) (p_l : Sl) (K : Heap → Prop) (H : Heap) (h : sh_code_pen_put C p_p p_l K H) : c_code_pen_put C p_p p_l K H := by
  refine Spec.enter Try.func22 rfl Try.ntmps22 rfl ?_
  refine GC.sub [(0, pv p_p), (1, slv p_l)] ⟨rfl, rfl, trivial⟩ ?_
  refine GC.seq ?_
  refine GC.region ?_
  refine GL.val trivial rfl (OV.move (v := slv p_l) rfl) ?_
  refine GL.val trivial rfl (OV.lenSl (s := p_l) rfl rfl) ?_
  refine GL.val trivial rfl (OV.move (v := .int .i64 0) rfl) ?_
  refine GL.nil ?_
  refine GC.block ?_
  refine GC.loop (α := Int) h (fun x1 => [(8, .int .i64 x1), (0, pv p_p), (6, slv p_l), (7, .int .i64 (Sl.len p_l : Int))]) ⟨rfl, rfl, rfl, rfl, trivial⟩ ?_
  intro x1 H3 J2 h
  refine GC.seq ?_
  refine GC.region ?_
  refine GL.val trivial rfl (OV.ibin (v := .bool (decide ((x1 : Int) < (Sl.len p_l : Int)))) rfl rfl rfl) ?_
  refine GL.nil ?_
  refine GC.seq ?_
  refine GC.cond (b := decide ((x1 : Int) < (Sl.len p_l : Int))) rfl (fun hc4 => ?_) (fun hc4 => ?_)
  · replace h := And.left h hc4
    refine GC.skip ?_
    refine GC.seq ?_
    refine GC.block ?_
    refine GC.seq ?_
    refine GC.region ?_
    obtain ⟨p5, ha6, hb7, hc8, hd9, h⟩ := h
    refine GL.val trivial rfl (OV.indexAddr (s := p_l) rfl rfl rfl rfl ha6 hb7 hc8 hd9) ?_
    obtain ⟨x10, hr11, h⟩ := h
    refine GL.val trivial rfl (OV.load (p := (p5.1, p5.2 + (x1 : Int).toNat * 1)) rfl rfl hr11) ?_
    refine GL.val trivial rfl (OV.assign (v := .int .u8 x10) rfl) ?_
    refine GL.nil ?_
    obtain ⟨Hs12, hle13, h⟩ := h
    refine GC.tail (Hs := Hs12) 15 (by kernel_rfl) hle13 (by kernel_rfl) ?_
    refine GT.take 0 rfl (by kernel_rfl) (by kernel_rfl) (by kernel_rfl) rfl (fun _ _ _ h => by obtain ⟨_, _, _, h, _⟩ := h; cases h) trivial rfl (OV.move (v := pv p_p) rfl) ?_
    refine GT.take 1 rfl (by kernel_rfl) (by kernel_rfl) (by kernel_rfl) rfl (fun _ _ _ h => by obtain ⟨_, _, _, h, _⟩ := h; cases h) trivial rfl (OV.move (v := pv p_p) rfl) ?_
    obtain ⟨p14, hp15, h⟩ := h
    refine GT.take 2 rfl (by kernel_rfl) (by kernel_rfl) (by kernel_rfl) rfl (fun _ _ _ h => by obtain ⟨_, _, _, h, _⟩ := h; cases h) trivial rfl (OV.nilCheck (q := p_p) rfl hp15) ?_
    refine GT.take 3 rfl (by kernel_rfl) (by kernel_rfl) (by kernel_rfl) rfl (fun _ _ _ h => by obtain ⟨_, _, _, h, _⟩ := h; cases h) trivial rfl (OV.fieldAddr (p := p14) rfl rfl) ?_
    obtain ⟨x16, hr17, h⟩ := h
    refine GT.take 4 rfl (by kernel_rfl) (by kernel_rfl) (by kernel_rfl) rfl (fun _ _ _ h => by obtain ⟨_, _, _, h, _⟩ := h; cases h) trivial rfl (OV.load (p := (p14.1, p14.2 + 0)) rfl rfl hr17) ?_
    refine GT.take 5 rfl (by kernel_rfl) (by kernel_rfl) (by kernel_rfl) rfl (fun _ _ _ h => by obtain ⟨_, _, _, h, _⟩ := h; cases h) trivial rfl (OV.move (v := .int .u8 x10) rfl) ?_
    refine GT.take 6 rfl (by kernel_rfl) (by kernel_rfl) (by kernel_rfl) rfl (fun _ _ _ h => by obtain ⟨_, _, _, h, _⟩ := h; cases h) trivial rfl (OV.move (v := pv p_p) rfl) ?_
    obtain ⟨p18, hp19, h⟩ := h
    refine GT.take 7 rfl (by kernel_rfl) (by kernel_rfl) (by kernel_rfl) rfl (fun _ _ _ h => by obtain ⟨_, _, _, h, _⟩ := h; cases h) trivial rfl (OV.nilCheck (q := p_p) rfl hp19) ?_
    refine GT.take 8 rfl (by kernel_rfl) (by kernel_rfl) (by kernel_rfl) rfl (fun _ _ _ h => by obtain ⟨_, _, _, h, _⟩ := h; cases h) trivial rfl (OV.fieldAddr (p := p18) rfl rfl) ?_
    obtain ⟨x20, hr21, h⟩ := h
    refine GT.take 9 rfl (by kernel_rfl) (by kernel_rfl) (by kernel_rfl) rfl (fun _ _ _ h => by obtain ⟨_, _, _, h, _⟩ := h; cases h) trivial rfl (OV.load (p := (p18.1, p18.2 + 1)) rfl rfl hr21) ?_
    refine GT.take 10 rfl (by kernel_rfl) (by kernel_rfl) (by kernel_rfl) rfl (fun _ _ _ h => by obtain ⟨_, _, _, h, _⟩ := h; cases h) trivial rfl (OV.ibin (v := .int .u8 (bXor .u8 x10 x20)) rfl rfl rfl) ?_
    refine GT.eff 11 rfl (by kernel_rfl) rfl ?_
    refine GL.buildSlice (cs := [.int .u8 (bXor .u8 x10 x20)]) h trivial rfl (vs := [(0, .int .u8 (bXor .u8 x10 x20))]) rfl ⟨5, fun _ => by kernel_rfl⟩ ?_
    intro b23 H24 h
    obtain ⟨hle22, h⟩ := h
    refine GT.back hle22 ?_
    refine GT.eff 12 rfl (by kernel_rfl) rfl ?_
    refine GL.appendS (s := x16) (s2 := (Sl.of (some (b23, 0)) 1 1)) (zc := [.int .u8 0]) (bytes := 1) h trivial rfl rfl rfl ⟨⟨_, _, _, rfl, rfl, rfl, rfl, rfl, rfl⟩⟩ rfl ?_
    intro r26 H27 h
    obtain ⟨hle25, h⟩ := h
    refine GT.back hle25 ?_
    obtain ⟨p28, hp29, h⟩ := h
    refine GT.take 13 rfl (by kernel_rfl) (by kernel_rfl) (by kernel_rfl) rfl (fun _ _ _ h => by obtain ⟨_, _, _, h, _⟩ := h; cases h) trivial rfl (OV.nilCheck (q := p_p) rfl hp29) ?_
    refine GT.take 14 rfl (by kernel_rfl) (by kernel_rfl) (by kernel_rfl) rfl (fun _ _ _ h => by obtain ⟨_, _, _, h, _⟩ := h; cases h) trivial rfl (OV.fieldAddr (p := p28) rfl rfl) ?_
    refine GT.done (by kernel_rfl) ?_
    show GL _ _ _ _ _ [_] _ _
    refine GL.store (p := (p28.1, p28.2 + 0)) (v := slv r26) h trivial rfl rfl rfl rfl ?_
    intro H30 h
    refine GL.nil_to (fun _ _ h => h) ?_
    refine GC.region ?_
    refine GL.val trivial rfl (OV.ibin (v := .int .i64 (w .i64 (x1 + 1))) rfl rfl rfl) ?_
    refine GL.val trivial rfl (OV.move (v := .int .i64 (w .i64 (x1 + 1))) rfl) ?_
    exact GL.jump (fun _ _ h => h) (w .i64 (x1 + 1)) h ⟨rfl, rfl, rfl, rfl, trivial⟩
  · replace h := And.right h hc4
    exact GC.exit_ends (fun _ _ hf hs => post_tmp0 rfl hf hs ⟨rfl, h⟩)

def sh_slices_Clone_byte_byte (C : Ctx) (p_s : Sl) (K : Sl → Heap → Prop) (H : Heap) : Prop :=
  ift (Sl.isNil p_s)
 (K Sl.nil H)
 (nw ([]) (fun b2 H3 =>
 apS ([.int .u8 0]) 1 (Sl.of (some (b2, 0)) 0 0) p_s (fun r4 H5 =>
 K r4 H5) H3) H)

theorem ad_slices_Clone_byte_byte (C : Ctx) (p_s : Sl) (K : Sl → Heap → Prop) (H : Heap) (h : sh_slices_Clone_byte_byte C p_s K H) : c_slices_Clone_byte_byte C p_s K H := by
  refine Spec.enter Try.func23 rfl Try.ntmps23 rfl ?_
  refine GC.sub [(0, slv p_s)] ⟨rfl, trivial⟩ ?_
  refine GC.seq ?_
  refine GC.region ?_
  refine GL.val trivial rfl (OV.assign (v := slv Sl.nil) rfl) ?_
  refine GL.nil ?_
  refine GC.seq ?_
  refine GC.seq ?_
  refine GC.region ?_
  refine GL.val trivial rfl (OV.move (v := slv p_s) rfl) ?_
  refine GL.val trivial rfl (OV.eqlSl (s := p_s) rfl rfl rfl) ?_
  refine GL.nil ?_
  refine GC.cond (b := Sl.isNil p_s) rfl (fun hc1 => ?_) (fun hc1 => ?_)
  · replace h := And.left h hc1
    refine GC.seq ?_
    refine GC.region ?_
    refine GL.val trivial rfl (OV.assign (v := slv Sl.nil) rfl) ?_
    refine GL.nil ?_
    exact GC.ret (fun _ _ hf hs => post_tmp1 rfl rfl hf hs ⟨Sl.nil, rfl, h⟩)
  · replace h := And.right h hc1
    refine GC.skip ?_
    refine GC.seq ?_
    refine GC.region ?_
    refine GL.buildSlice (cs := []) h trivial rfl (vs := []) rfl ⟨5, fun _ => by kernel_rfl⟩ ?_
    intro b2 H3 h
    refine GL.val trivial rfl (OV.move (v := slv p_s) rfl) ?_
    refine GL.appendS (s := (Sl.of (some (b2, 0)) 0 0)) (s2 := p_s) (zc := [.int .u8 0]) (bytes := 1) h trivial rfl rfl rfl ⟨⟨_, _, _, rfl, rfl, rfl, rfl, rfl, rfl⟩⟩ rfl ?_
    intro r4 H5 h
    refine GL.val trivial rfl (OV.assign (v := slv r4) rfl) ?_
    refine GL.nil ?_
    exact GC.ret (fun _ _ hf hs => post_tmp1 rfl rfl hf hs ⟨r4, rfl, h⟩)

def sh_code_Reader_number (C : Ctx) (p_r : Option (Nat × Nat)) (p_k : Int) (p_most : Int) (K : Int → Heap → Prop) (H : Heap) : Prop :=
  c_code_Reader_ask C p_r ((decide ((p_k : Int) ≥ 0)) && (decide ((p_k : Int) ≤ p_most))) (fun r2 H3 =>
 ift (!r2)
 (K 0 H3)
 (lp (α := Int × Int) (0, 0) H3 (fun x5 J6 H7 =>
 ift (decide ((x5.2 : Int) < p_k))
 (c_code_Reader_next C p_r (fun r9 H10 =>
 c_code_Reader_ask C p_r ((decide ((x5.2 : Int) > 0)) || ((r9 : Int) != 0)) (fun r12 H13 =>
 J6 ((bOr .u64 (sShl .u64 x5.1 8) (w .u64 r9)), (w .i64 (x5.2 + 1))) H13) H10) H7)
 (K x5.1 H7)))) H

theorem ad_code_Reader_number (C : Ctx) (p_r : Option (Nat × Nat)) (p_k : Int) (p_most : Int) (K : Int → Heap → Prop) (H : Heap) (h : sh_code_Reader_number C p_r p_k p_most K H) : c_code_Reader_number C p_r p_k p_most K H := by
  refine Spec.enter Try.func24 rfl Try.ntmps24 rfl ?_
  refine GC.sub [(0, pv p_r), (1, .int .i64 p_k), (2, .int .i64 p_most)] ⟨rfl, rfl, rfl, trivial⟩ ?_
  refine GC.seq ?_
  refine GC.region ?_
  refine GL.val trivial rfl (OV.assign (v := .int .u64 0) rfl) ?_
  refine GL.nil ?_
  refine GC.seq ?_
  refine GC.region ?_
  refine GL.val trivial rfl (OV.assign (v := .int .u64 0) rfl) ?_
  refine GL.nil ?_
  refine GC.seq ?_
  refine GC.seq ?_
  refine GC.region ?_
  refine GL.val trivial rfl (OV.move (v := pv p_r) rfl) ?_
  refine GL.val trivial rfl (OV.move (v := .int .i64 p_k) rfl) ?_
  refine GL.val trivial rfl (OV.ibin (v := .bool (decide ((p_k : Int) ≥ 0))) rfl rfl rfl) ?_
  refine GL.val trivial rfl (OV.move (v := .bool (decide ((p_k : Int) ≥ 0))) rfl) ?_
  refine GL.cut0 4 [(17, .bool ((decide ((p_k : Int) ≥ 0)) && (decide ((p_k : Int) ≤ p_most)))), (0, pv p_r), (1, .int .i64 p_k), (7, .int .u64 0), (10, pv p_r)] ?_ ?_
  · rcases Bool.eq_false_or_eq_true (decide ((p_k : Int) ≥ 0)) with hc1 | hc1
    · skip
      refine GL.val ⟨_, _, rfl, rfl, hc1⟩ rfl (OV.move (v := .int .i64 p_k) rfl) ?_
      refine GL.val ⟨_, _, rfl, rfl, hc1⟩ rfl (OV.move (v := .int .i64 p_most) rfl) ?_
      refine GL.val ⟨_, _, rfl, rfl, hc1⟩ rfl (OV.ibin (v := .bool (decide ((p_k : Int) ≤ p_most))) rfl rfl rfl) ?_
      refine GL.val trivial rfl (OV.pickT (b := decide ((p_k : Int) ≥ 0)) (v := .bool (decide ((p_k : Int) ≤ p_most))) rfl hc1 rfl) ?_
      exact GL.jump0 (fun _ _ h => h) () rfl ⟨(by rw [hc1]; rfl), rfl, rfl, rfl, rfl, trivial⟩
    · skip
      refine GL.skip ⟨_, rfl, .inl ⟨_, rfl, hc1⟩⟩ rfl ?_
      refine GL.skip ⟨_, rfl, .inl ⟨_, rfl, hc1⟩⟩ rfl ?_
      refine GL.skip ⟨_, rfl, .inl ⟨_, rfl, hc1⟩⟩ rfl ?_
      refine GL.val trivial rfl (OV.pickF (b := decide ((p_k : Int) ≥ 0)) (v := .bool false) rfl hc1 rfl) ?_
      exact GL.jump0 (fun _ _ h => h) () rfl ⟨(by rw [hc1]; rfl), rfl, rfl, rfl, rfl, trivial⟩
  refine GL.call h trivial rfl ok_code_Reader_ask (vs := [pv p_r, .bool ((decide ((p_k : Int) ≥ 0)) && (decide ((p_k : Int) ≤ p_most)))]) rfl ?_
  rintro _ H3 ⟨r2, rfl, h⟩
  refine GL.val trivial rfl (OV.not rfl) ?_
  refine GL.nil ?_
  refine GC.cond (b := !r2) rfl (fun hc4 => ?_) (fun hc4 => ?_)
  · replace h := And.left h hc4
    refine GC.seq ?_
    refine GC.region ?_
    refine GL.val trivial rfl (OV.assign (v := .int .u64 0) rfl) ?_
    refine GL.nil ?_
    exact GC.ret (fun _ _ hf hs => post_tmp1 rfl rfl hf hs ⟨0, rfl, h⟩)
  · replace h := And.right h hc4
    refine GC.skip ?_
    refine GC.seq ?_
    refine GC.seq ?_
    refine GC.region ?_
    refine GL.val trivial rfl (OV.move (v := .int .i64 p_k) rfl) ?_
    refine GL.val trivial rfl (OV.move (v := .int .i64 0) rfl) ?_
    refine GL.nil ?_
    refine GC.block ?_
    refine GC.loop (α := Int × Int) h (fun x5 => [(7, .int .u64 x5.1), (21, .int .i64 x5.2), (0, pv p_r), (20, .int .i64 p_k)]) ⟨rfl, rfl, rfl, rfl, trivial⟩ ?_
    intro x5 H7 J6 h
    refine GC.seq ?_
    refine GC.region ?_
    refine GL.val trivial rfl (OV.ibin (v := .bool (decide ((x5.2 : Int) < p_k))) rfl rfl rfl) ?_
    refine GL.nil ?_
    refine GC.seq ?_
    refine GC.cond (b := decide ((x5.2 : Int) < p_k)) rfl (fun hc8 => ?_) (fun hc8 => ?_)
    · replace h := And.left h hc8
      refine GC.skip ?_
      refine GC.seq ?_
      refine GC.block ?_
      refine GC.seq ?_
      refine GC.region ?_
      refine GL.val trivial rfl (OV.move (v := .int .i64 x5.2) rfl) ?_
      refine GL.val trivial rfl (OV.assign (v := .int .i64 x5.2) rfl) ?_
      refine GL.nil ?_
      refine GC.seq ?_
      refine GC.region ?_
      refine GL.val trivial rfl (OV.move (v := pv p_r) rfl) ?_
      refine GL.call h trivial rfl ok_code_Reader_next (vs := [pv p_r]) rfl ?_
      rintro _ H10 ⟨r9, rfl, h⟩
      refine GL.val trivial rfl (OV.assign (v := .int .u8 r9) rfl) ?_
      refine GL.nil ?_
      refine GC.seq ?_
      refine GC.region ?_
      refine GL.val trivial rfl (OV.move (v := pv p_r) rfl) ?_
      refine GL.val trivial rfl (OV.move (v := .int .i64 x5.2) rfl) ?_
      refine GL.val trivial rfl (OV.ibin (v := .bool (decide ((x5.2 : Int) > 0))) rfl rfl rfl) ?_
      refine GL.val trivial rfl (OV.move (v := .bool (decide ((x5.2 : Int) > 0))) rfl) ?_
      refine GL.cut0 3 [(32, .bool ((decide ((x5.2 : Int) > 0)) || ((r9 : Int) != 0))), (0, pv p_r), (7, .int .u64 x5.1), (9, .int .u8 r9), (20, .int .i64 p_k), (21, .int .i64 x5.2), (26, pv p_r)] ?_ ?_
      · rcases Bool.eq_false_or_eq_true (decide ((x5.2 : Int) > 0)) with hc11 | hc11
        · skip
          refine GL.skip ⟨_, rfl, .inl ⟨_, rfl, hc11⟩⟩ rfl ?_
          refine GL.skip ⟨_, rfl, .inl ⟨_, rfl, hc11⟩⟩ rfl ?_
          refine GL.val trivial rfl (OV.pickT (b := decide ((x5.2 : Int) > 0)) (v := .bool true) rfl hc11 rfl) ?_
          exact GL.jump0 (fun _ _ h => h) () rfl ⟨(by rw [hc11]; rfl), rfl, rfl, rfl, rfl, rfl, rfl, trivial⟩
        · skip
          refine GL.val ⟨_, _, rfl, rfl, hc11⟩ rfl (OV.move (v := .int .u8 r9) rfl) ?_
          refine GL.val ⟨_, _, rfl, rfl, hc11⟩ rfl (OV.ibin (v := .bool ((r9 : Int) != 0)) rfl rfl rfl) ?_
          refine GL.val trivial rfl (OV.pickF (b := decide ((x5.2 : Int) > 0)) (v := .bool ((r9 : Int) != 0)) rfl hc11 rfl) ?_
          exact GL.jump0 (fun _ _ h => h) () rfl ⟨(by rw [hc11]; rfl), rfl, rfl, rfl, rfl, rfl, rfl, trivial⟩
      refine GL.call h trivial rfl ok_code_Reader_ask (vs := [pv p_r, .bool ((decide ((x5.2 : Int) > 0)) || ((r9 : Int) != 0))]) rfl ?_
      rintro _ H13 ⟨r12, rfl, h⟩
      refine GL.nil ?_
      refine GC.region ?_
      refine GL.val trivial rfl (OV.move (v := .int .u64 x5.1) rfl) ?_
      refine GL.val trivial rfl (OV.shl rfl rfl (by decide)) ?_
      refine GL.val trivial rfl (OV.move (v := .int .u8 r9) rfl) ?_
      refine GL.val trivial rfl (OV.convInt rfl rfl rfl) ?_
      refine GL.val trivial rfl (OV.ibin (v := .int .u64 (bOr .u64 (sShl .u64 x5.1 8) (w .u64 r9))) rfl rfl rfl) ?_
      refine GL.val trivial rfl (OV.assign (v := .int .u64 (bOr .u64 (sShl .u64 x5.1 8) (w .u64 r9))) rfl) ?_
      refine GL.nil_to (fun _ _ h => h) ?_
      refine GC.region ?_
      refine GL.val trivial rfl (OV.ibin (v := .int .i64 (w .i64 (x5.2 + 1))) rfl rfl rfl) ?_
      refine GL.val trivial rfl (OV.move (v := .int .i64 (w .i64 (x5.2 + 1))) rfl) ?_
      exact GL.jump (fun _ _ h => h) ((bOr .u64 (sShl .u64 x5.1 8) (w .u64 r9)), (w .i64 (x5.2 + 1))) h ⟨rfl, rfl, rfl, rfl, trivial⟩
    · replace h := And.right h hc8
      refine GC.exit_to (fun _ _ h => h) ?_
      refine GC.seq ?_
      refine GC.region ?_
      refine GL.val trivial rfl (OV.move (v := .int .u64 x5.1) rfl) ?_
      refine GL.val trivial rfl (OV.assign (v := .int .u64 x5.1) rfl) ?_
      refine GL.nil ?_
      exact GC.ret (fun _ _ hf hs => post_tmp1 rfl rfl hf hs ⟨x5.1, rfl, h⟩)

def sh_code_Reader_next (C : Ctx) (p_r : Option (Nat × Nat)) (K : Int → Heap → Prop) (H : Heap) : Prop :=
  nck p_r fun p1 =>
 ldL H (p1.1, p1.2 + 0) fun x3 =>
 c_code_Reader_ask C p_r (decide (((Sl.len x3 : Int) : Int) > 0)) (fun r5 H6 =>
 ift (!r5)
 (K 0 H6)
 (nck p_r fun p8 =>
 ldL H6 (p8.1, p8.2 + 0) fun x10 =>
 ixa x10 0 fun p12 =>
 ldI H6 .u8 (p12.1, p12.2 + (0 : Int).toNat * 1) fun x17 =>
 nck p_r fun p19 =>
 ldI H6 .u8 (p19.1, p19.2 + 1) fun x21 =>
 nck p_r fun p23 =>
 ldL H6 (p23.1, p23.2 + 0) fun x25 =>
 slL x25 1 (Sl.len x25 : Int) (Sl.cap x25 : Int) 1 fun t27 =>
 nck p_r fun p33 =>
 st (p33.1, p33.2 + 0) (slv t27) (fun H35 =>
 K (bXor .u8 x17 x21) H35) H6)) H

theorem ad_code_Reader_next (C : Ctx) (p_r : Option (Nat × Nat)) (K : Int → Heap → Prop) (H : Heap) (h : sh_code_Reader_next C p_r K H) : c_code_Reader_next C p_r K H := by
  refine Spec.enter Try.func25 rfl Try.ntmps25 rfl ?_
  refine GC.sub [(0, pv p_r)] ⟨rfl, trivial⟩ ?_
  refine GC.seq ?_
  refine GC.region ?_
  refine GL.val trivial rfl (OV.assign (v := .int .u8 0) rfl) ?_
  refine GL.nil ?_
  refine GC.seq ?_
  refine GC.seq ?_
  refine GC.region ?_
  refine GL.val trivial rfl (OV.move (v := pv p_r) rfl) ?_
  refine GL.val trivial rfl (OV.move (v := pv p_r) rfl) ?_
  obtain ⟨p1, hp2, h⟩ := h
  refine GL.val trivial rfl (OV.nilCheck (q := p_r) rfl hp2) ?_
  refine GL.val trivial rfl (OV.fieldAddr (p := p1) rfl rfl) ?_
  obtain ⟨x3, hr4, h⟩ := h
  refine GL.val trivial rfl (OV.load (p := (p1.1, p1.2 + 0)) rfl rfl hr4) ?_
  refine GL.val trivial rfl (OV.lenSl (s := x3) rfl rfl) ?_
  refine GL.val trivial rfl (OV.ibin (v := .bool (decide (((Sl.len x3 : Int) : Int) > 0))) rfl rfl rfl) ?_
  refine GL.call h trivial rfl ok_code_Reader_ask (vs := [pv p_r, .bool (decide (((Sl.len x3 : Int) : Int) > 0))]) rfl ?_
  rintro _ H6 ⟨r5, rfl, h⟩
  refine GL.val trivial rfl (OV.not rfl) ?_
  refine GL.nil ?_
  refine GC.cond (b := !r5) rfl (fun hc7 => ?_) (fun hc7 => ?_)
  · replace h := And.left h hc7
    refine GC.seq ?_
    refine GC.region ?_
    refine GL.val trivial rfl (OV.assign (v := .int .u8 0) rfl) ?_
    refine GL.nil ?_
    exact GC.ret (fun _ _ hf hs => post_tmp1 rfl rfl hf hs ⟨0, rfl, h⟩)
  · replace h := And.right h hc7
    refine GC.skip ?_
    refine GC.seq ?_
    refine GC.draw (by kernel_rfl) (by kernel_rfl) ?_
    refine GQ.val trivial rfl (OV.move (v := pv p_r) rfl) ?_
    obtain ⟨p8, hp9, h⟩ := h
    refine GQ.val trivial rfl (OV.nilCheck (q := p_r) rfl hp9) ?_
    refine GQ.val trivial rfl (OV.fieldAddr (p := p8) rfl rfl) ?_
    obtain ⟨x10, hr11, h⟩ := h
    refine GQ.val trivial rfl (OV.load (p := (p8.1, p8.2 + 0)) rfl rfl hr11) ?_
    obtain ⟨p12, ha13, hb14, hc15, hd16, h⟩ := h
    refine GQ.val trivial rfl (OV.indexAddr (s := x10) rfl rfl rfl rfl ha13 hb14 hc15 hd16) ?_
    obtain ⟨x17, hr18, h⟩ := h
    refine GQ.val trivial rfl (OV.load (p := (p12.1, p12.2 + (0 : Int).toNat * 1)) rfl rfl hr18) ?_
    refine GQ.val trivial rfl (OV.move (v := pv p_r) rfl) ?_
    obtain ⟨p19, hp20, h⟩ := h
    refine GQ.val trivial rfl (OV.nilCheck (q := p_r) rfl hp20) ?_
    refine GQ.val trivial rfl (OV.fieldAddr (p := p19) rfl rfl) ?_
    obtain ⟨x21, hr22, h⟩ := h
    refine GQ.val trivial rfl (OV.load (p := (p19.1, p19.2 + 1)) rfl rfl hr22) ?_
    refine GQ.val trivial rfl (OV.ibin (v := .int .u8 (bXor .u8 x17 x21)) rfl rfl rfl) ?_
    refine GQ.val trivial rfl (OV.assign (v := .int .u8 (bXor .u8 x17 x21)) rfl) ?_
    refine GQ.nil ?_
    refine GL.nil ?_
    refine GC.seq ?_
    refine GC.region ?_
    refine GL.val trivial rfl (OV.move (v := pv p_r) rfl) ?_
    refine GL.val trivial rfl (OV.move (v := pv p_r) rfl) ?_
    obtain ⟨p23, hp24, h⟩ := h
    refine GL.val trivial rfl (OV.nilCheck (q := p_r) rfl hp24) ?_
    refine GL.val trivial rfl (OV.fieldAddr (p := p23) rfl rfl) ?_
    obtain ⟨x25, hr26, h⟩ := h
    refine GL.val trivial rfl (OV.load (p := (p23.1, p23.2 + 0)) rfl rfl hr26) ?_
    obtain ⟨h28, h29, h30, h31, t27, h32, h⟩ := h
    refine GL.val trivial rfl (OV.sliceSl (s := x25) h28 h29 h30 h31 h32 rfl rfl rfl rfl rfl rfl rfl (fun h => by first | rfl | cases h) rfl rfl) ?_
    obtain ⟨p33, hp34, h⟩ := h
    refine GL.val trivial rfl (OV.nilCheck (q := p_r) rfl hp34) ?_
    refine GL.val trivial rfl (OV.fieldAddr (p := p33) rfl rfl) ?_
    refine GL.store (p := (p33.1, p33.2 + 0)) (v := slv t27) h trivial rfl rfl rfl rfl ?_
    intro H35 h
    refine GL.nil ?_
    refine GC.seq ?_
    refine GC.region ?_
    refine GL.val trivial rfl (OV.move (v := .int .u8 (bXor .u8 x17 x21)) rfl) ?_
    refine GL.val trivial rfl (OV.assign (v := .int .u8 (bXor .u8 x17 x21)) rfl) ?_
    refine GL.nil ?_
    exact GC.ret (fun _ _ hf hs => post_tmp1 rfl rfl hf hs ⟨(bXor .u8 x17 x21), rfl, h⟩)

def sh_code_Reader_ask (C : Ctx) (p_r : Option (Nat × Nat)) (p_ok : Bool) (K : Bool → Heap → Prop) (H : Heap) : Prop :=
  jn (α := Unit) (fun x2 H3 =>
 nck p_r fun p12 =>
 ldB H3 (p12.1, p12.2 + 2) fun x14 =>
 K (!x14) H3)
 (fun J1 => ift (!p_ok)
 (nck p_r fun p6 =>
 st (p6.1, p6.2 + 0) (slv Sl.nil) (fun H8 =>
 nck p_r fun p9 =>
 st (p9.1, p9.2 + 2) (.bool true) (fun H11 =>
 J1 () H11) H8) H)
 (J1 () H))

theorem ad_code_Reader_ask (C : Ctx) (p_r : Option (Nat × Nat)) (p_ok : Bool) (K : Bool → Heap → Prop) (H : Heap) (h : sh_code_Reader_ask C p_r p_ok K H) : c_code_Reader_ask C p_r p_ok K H := by
  refine Spec.enter Try.func26 rfl Try.ntmps26 rfl ?_
  refine GC.sub [(0, pv p_r), (1, .bool p_ok)] ⟨rfl, rfl, trivial⟩ ?_
  refine GC.seq ?_
  refine GC.region ?_
  refine GL.val trivial rfl (OV.assign (v := .bool false) rfl) ?_
  refine GL.nil ?_
  obtain ⟨J1, h, hR4⟩ := h
  refine GC.join (α := Unit) J1 (fun _ => [(0, pv p_r)]) ?_ ?_
  · skip
    refine GC.seq ?_
    refine GC.region ?_
    refine GL.val trivial rfl (OV.move (v := .bool p_ok) rfl) ?_
    refine GL.val trivial rfl (OV.not rfl) ?_
    refine GL.nil ?_
    refine GC.cond (b := !p_ok) rfl (fun hc5 => ?_) (fun hc5 => ?_)
    · replace h := And.left h hc5
      refine GC.region ?_
      refine GL.val trivial rfl (OV.move (v := pv p_r) rfl) ?_
      refine GL.val trivial rfl (OV.move (v := pv p_r) rfl) ?_
      obtain ⟨p6, hp7, h⟩ := h
      refine GL.val trivial rfl (OV.nilCheck (q := p_r) rfl hp7) ?_
      refine GL.val trivial rfl (OV.fieldAddr (p := p6) rfl rfl) ?_
      refine GL.store (p := (p6.1, p6.2 + 0)) (v := slv Sl.nil) h trivial rfl rfl rfl rfl ?_
      intro H8 h
      obtain ⟨p9, hp10, h⟩ := h
      refine GL.val trivial rfl (OV.nilCheck (q := p_r) rfl hp10) ?_
      refine GL.val trivial rfl (OV.fieldAddr (p := p9) rfl rfl) ?_
      refine GL.store (p := (p9.1, p9.2 + 2)) (v := .bool true) h trivial rfl rfl rfl rfl ?_
      intro H11 h
      exact GL.jump (fun _ _ h => h) () h ⟨rfl, trivial⟩
    · replace h := And.right h hc5
      exact GC.jump (fun _ _ h => h) () h ⟨rfl, trivial⟩
  · intro x2 H3 h
    replace h := hR4 x2 H3 h
    refine GC.seq ?_
    refine GC.region ?_
    refine GL.val trivial rfl (OV.move (v := pv p_r) rfl) ?_
    obtain ⟨p12, hp13, h⟩ := h
    refine GL.val trivial rfl (OV.nilCheck (q := p_r) rfl hp13) ?_
    refine GL.val trivial rfl (OV.fieldAddr (p := p12) rfl rfl) ?_
    obtain ⟨x14, hr15, h⟩ := h
    refine GL.val trivial rfl (OV.load (p := (p12.1, p12.2 + 2)) rfl rfl hr15) ?_
    refine GL.val trivial rfl (OV.not rfl) ?_
    refine GL.val trivial rfl (OV.assign (v := .bool (!x14)) rfl) ?_
    refine GL.nil ?_
    exact GC.ret (fun _ _ hf hs => post_tmp1 rfl rfl hf hs ⟨(!x14), rfl, h⟩)

def sh_code_Reader_flip (C : Ctx) (p_r : Option (Nat × Nat)) (p_is : Bool) (K : Heap → Prop) (H : Heap) : Prop :=
  ift p_is
 (nck p_r fun p2 =>
 ldI H .u8 (p2.1, p2.2 + 1) fun x4 =>
 nck p_r fun p6 =>
 st (p6.1, p6.2 + 1) (.int .u8 (bXor .u8 x4 255)) (fun H8 =>
 K H8) H)
 (K H)

theorem ad_code_Reader_flip (C : Ctx) (p_r : Option (Nat × Nat)) (p_is : Bool) (K : Heap → Prop) (H : Heap) (h : sh_code_Reader_flip C p_r p_is K H) : c_code_Reader_flip C p_r p_is K H := by
  refine Spec.enter Try.func27 rfl Try.ntmps27 rfl ?_
  refine GC.sub [(0, pv p_r), (1, .bool p_is)] ⟨rfl, rfl, trivial⟩ ?_
  refine GC.seq ?_
  refine GC.region ?_
  refine GL.val trivial rfl (OV.move (v := .bool p_is) rfl) ?_
  refine GL.nil ?_
  refine GC.cond (b := p_is) rfl (fun hc1 => ?_) (fun hc1 => ?_)
  · replace h := And.left h hc1
    refine GC.region ?_
    refine GL.val trivial rfl (OV.move (v := pv p_r) rfl) ?_
    obtain ⟨p2, hp3, h⟩ := h
    refine GL.val trivial rfl (OV.nilCheck (q := p_r) rfl hp3) ?_
    refine GL.val trivial rfl (OV.fieldAddr (p := p2) rfl rfl) ?_
    obtain ⟨x4, hr5, h⟩ := h
    refine GL.val trivial rfl (OV.load (p := (p2.1, p2.2 + 1)) rfl rfl hr5) ?_
    refine GL.val trivial rfl (OV.ibin (v := .int .u8 (bXor .u8 x4 255)) rfl rfl rfl) ?_
    obtain ⟨p6, hp7, h⟩ := h
    refine GL.val trivial rfl (OV.nilCheck (q := p_r) rfl hp7) ?_
    refine GL.val trivial rfl (OV.fieldAddr (p := p6) rfl rfl) ?_
    refine GL.store (p := (p6.1, p6.2 + 1)) (v := .int .u8 (bXor .u8 x4 255)) h trivial rfl rfl rfl rfl ?_
    intro H8 h
    exact GL.ends (fun _ _ hf hs => post_tmp0 rfl hf hs ⟨rfl, h⟩)
  · replace h := And.right h hc1
    exact GC.ends (fun _ _ hf hs => post_tmp0 rfl hf hs ⟨rfl, h⟩)

def sh_code_Reader_OK (C : Ctx) (p_r : Option (Nat × Nat)) (K : Bool → Heap → Prop) (H : Heap) : Prop :=
  jn (α := Bool) (fun b1 H9 =>
 K b1 H9)
 (fun J2 => ift (!(Option.isNone p_r))
 (nck p_r fun p5 =>
 ldB H (p5.1, p5.2 + 2) fun x7 =>
 J2 (!x7) H)
 (J2 false H))

theorem ad_code_Reader_OK (C : Ctx) (p_r : Option (Nat × Nat)) (K : Bool → Heap → Prop) (H : Heap) (h : sh_code_Reader_OK C p_r K H) : c_code_Reader_OK C p_r K H := by
  refine Spec.enter Try.func28 rfl Try.ntmps28 rfl ?_
  refine GC.sub [(0, pv p_r)] ⟨rfl, trivial⟩ ?_
  refine GC.seq ?_
  refine GC.region ?_
  refine GL.val trivial rfl (OV.assign (v := .bool false) rfl) ?_
  refine GL.nil ?_
  refine GC.seq ?_
  refine GC.region ?_
  refine GL.val trivial rfl (OV.move (v := pv p_r) rfl) ?_
  refine GL.val trivial rfl (OV.neqNil (p := p_r) rfl rfl rfl) ?_
  refine GL.val trivial rfl (OV.move (v := .bool (!(Option.isNone p_r))) rfl) ?_
  obtain ⟨J2, h, hR3⟩ := h
  refine GL.cut (α := Bool) 6 J2 (fun b1 => [(11, .bool b1)]) ?_ ?_
  · rcases Bool.eq_false_or_eq_true (!(Option.isNone p_r)) with hc4 | hc4
    · skip
      replace h := And.left h hc4
      refine GL.val ⟨_, _, rfl, rfl, hc4⟩ rfl (OV.move (v := pv p_r) rfl) ?_
      obtain ⟨p5, hp6, h⟩ := h
      refine GL.val ⟨_, _, rfl, rfl, hc4⟩ rfl (OV.nilCheck (q := p_r) rfl hp6) ?_
      refine GL.val ⟨_, _, rfl, rfl, hc4⟩ rfl (OV.fieldAddr (p := p5) rfl rfl) ?_
      obtain ⟨x7, hr8, h⟩ := h
      refine GL.val ⟨_, _, rfl, rfl, hc4⟩ rfl (OV.load (p := (p5.1, p5.2 + 2)) rfl rfl hr8) ?_
      refine GL.val ⟨_, _, rfl, rfl, hc4⟩ rfl (OV.not rfl) ?_
      refine GL.val trivial rfl (OV.pickT (b := !(Option.isNone p_r)) (v := .bool (!x7)) rfl hc4 rfl) ?_
      exact GL.jump (fun _ _ h => h) (!x7) h ⟨rfl, trivial⟩
    · skip
      replace h := And.right h hc4
      refine GL.skip ⟨_, rfl, .inl ⟨_, rfl, hc4⟩⟩ rfl ?_
      refine GL.skip ⟨_, rfl, .inl ⟨_, rfl, hc4⟩⟩ rfl ?_
      refine GL.skip ⟨_, rfl, .inl ⟨_, rfl, hc4⟩⟩ rfl ?_
      refine GL.skip ⟨_, rfl, .inl ⟨_, rfl, hc4⟩⟩ rfl ?_
      refine GL.skip ⟨_, rfl, .inl ⟨_, rfl, hc4⟩⟩ rfl ?_
      refine GL.val trivial rfl (OV.pickF (b := !(Option.isNone p_r)) (v := .bool false) rfl hc4 rfl) ?_
      exact GL.jump (fun _ _ h => h) false h ⟨rfl, trivial⟩
  intro b1 H9 h
  replace h := hR3 b1 H9 h
  refine GL.val trivial rfl (OV.assign (v := .bool b1) rfl) ?_
  refine GL.nil ?_
  exact GC.ret (fun _ _ hf hs => post_tmp1 rfl rfl hf hs ⟨b1, rfl, h⟩)

def sh_code_Reader_Left (C : Ctx) (p_r : Option (Nat × Nat)) (K : Int → Heap → Prop) (H : Heap) : Prop :=
  ift (Option.isNone p_r)
 (K 0 H)
 (nck p_r fun p2 =>
 ldL H (p2.1, p2.2 + 0) fun x4 =>
 K (Sl.len x4 : Int) H)

theorem ad_code_Reader_Left (C : Ctx) (p_r : Option (Nat × Nat)) (K : Int → Heap → Prop) (H : Heap) (h : sh_code_Reader_Left C p_r K H) : c_code_Reader_Left C p_r K H := by
  refine Spec.enter Try.func29 rfl Try.ntmps29 rfl ?_
  refine GC.sub [(0, pv p_r)] ⟨rfl, trivial⟩ ?_
  refine GC.seq ?_
  refine GC.region ?_
  refine GL.val trivial rfl (OV.assign (v := .int .i64 0) rfl) ?_
  refine GL.nil ?_
  refine GC.seq ?_
  refine GC.seq ?_
  refine GC.region ?_
  refine GL.val trivial rfl (OV.move (v := pv p_r) rfl) ?_
  refine GL.val trivial rfl (OV.eqlNil (p := p_r) rfl rfl rfl) ?_
  refine GL.nil ?_
  refine GC.cond (b := Option.isNone p_r) rfl (fun hc1 => ?_) (fun hc1 => ?_)
  · replace h := And.left h hc1
    refine GC.seq ?_
    refine GC.region ?_
    refine GL.val trivial rfl (OV.assign (v := .int .i64 0) rfl) ?_
    refine GL.nil ?_
    exact GC.ret (fun _ _ hf hs => post_tmp1 rfl rfl hf hs ⟨0, rfl, h⟩)
  · replace h := And.right h hc1
    refine GC.skip ?_
    refine GC.seq ?_
    refine GC.region ?_
    refine GL.val trivial rfl (OV.move (v := pv p_r) rfl) ?_
    obtain ⟨p2, hp3, h⟩ := h
    refine GL.val trivial rfl (OV.nilCheck (q := p_r) rfl hp3) ?_
    refine GL.val trivial rfl (OV.fieldAddr (p := p2) rfl rfl) ?_
    obtain ⟨x4, hr5, h⟩ := h
    refine GL.val trivial rfl (OV.load (p := (p2.1, p2.2 + 0)) rfl rfl hr5) ?_
    refine GL.val trivial rfl (OV.lenSl (s := x4) rfl rfl) ?_
    refine GL.val trivial rfl (OV.assign (v := .int .i64 (Sl.len x4 : Int)) rfl) ?_
    refine GL.nil ?_
    exact GC.ret (fun _ _ hf hs => post_tmp1 rfl rfl hf hs ⟨(Sl.len x4 : Int), rfl, h⟩)

def sh_code_pen_flip (C : Ctx) (p_p : Option (Nat × Nat)) (p_is : Bool) (K : Heap → Prop) (H : Heap) : Prop :=
  ift p_is
 (nck p_p fun p2 =>
 ldI H .u8 (p2.1, p2.2 + 1) fun x4 =>
 nck p_p fun p6 =>
 st (p6.1, p6.2 + 1) (.int .u8 (bXor .u8 x4 255)) (fun H8 =>
 K H8) H)
 (K H)

theorem ad_code_pen_flip (C : Ctx) (p_p : Option (Nat × Nat)) (p_is : Bool) (K : Heap → Prop) (H : Heap) (h : sh_code_pen_flip C p_p p_is K H) : c_code_pen_flip C p_p p_is K H := by
  refine Spec.enter Try.func30 rfl Try.ntmps30 rfl ?_
  refine GC.sub [(0, pv p_p), (1, .bool p_is)] ⟨rfl, rfl, trivial⟩ ?_
  refine GC.seq ?_
  refine GC.region ?_
  refine GL.val trivial rfl (OV.move (v := .bool p_is) rfl) ?_
  refine GL.nil ?_
  refine GC.cond (b := p_is) rfl (fun hc1 => ?_) (fun hc1 => ?_)
  · replace h := And.left h hc1
    refine GC.region ?_
    refine GL.val trivial rfl (OV.move (v := pv p_p) rfl) ?_
    obtain ⟨p2, hp3, h⟩ := h
    refine GL.val trivial rfl (OV.nilCheck (q := p_p) rfl hp3) ?_
    refine GL.val trivial rfl (OV.fieldAddr (p := p2) rfl rfl) ?_
    obtain ⟨x4, hr5, h⟩ := h
    refine GL.val trivial rfl (OV.load (p := (p2.1, p2.2 + 1)) rfl rfl hr5) ?_
    refine GL.val trivial rfl (OV.ibin (v := .int .u8 (bXor .u8 x4 255)) rfl rfl rfl) ?_
    obtain ⟨p6, hp7, h⟩ := h
    refine GL.val trivial rfl (OV.nilCheck (q := p_p) rfl hp7) ?_
    refine GL.val trivial rfl (OV.fieldAddr (p := p6) rfl rfl) ?_
    refine GL.store (p := (p6.1, p6.2 + 1)) (v := .int .u8 (bXor .u8 x4 255)) h trivial rfl rfl rfl rfl ?_
    intro H8 h
    exact GL.ends (fun _ _ hf hs => post_tmp0 rfl hf hs ⟨rfl, h⟩)
  · replace h := And.right h hc1
    exact GC.ends (fun _ _ hf hs => post_tmp0 rfl hf hs ⟨rfl, h⟩)

def sh_math_bits_Len64 (C : Ctx) (p_x : Int) (K : Int → Heap → Prop) (H : Heap) : Prop :=
  jn (α := Int × Int) (fun x2 H3 =>
 jn (α := Int × Int) (fun x7 H8 =>
 jn (α := Int × Int) (fun x12 H13 =>
 ixs [0, 1, 2, 2, 3, 3, 3, 3, 4, 4, 4, 4, 4, 4, 4, 4, 5, 5, 5, 5, 5, 5, 5, 5, 5, 5, 5, 5, 5, 5, 5, 5, 6, 6, 6, 6, 6, 6, 6, 6, 6, 6, 6, 6, 6, 6, 6, 6, 6, 6, 6, 6, 6, 6, 6, 6, 6, 6, 6, 6, 6, 6, 6, 6, 7, 7, 7, 7, 7, 7, 7, 7, 7, 7, 7, 7, 7, 7, 7, 7, 7, 7, 7, 7, 7, 7, 7, 7, 7, 7, 7, 7, 7, 7, 7, 7, 7, 7, 7, 7, 7, 7, 7, 7, 7, 7, 7, 7, 7, 7, 7, 7, 7, 7, 7, 7, 7, 7, 7, 7, 7, 7, 7, 7, 7, 7, 7, 7, 8, 8, 8, 8, 8, 8, 8, 8, 8, 8, 8, 8, 8, 8, 8, 8, 8, 8, 8, 8, 8, 8, 8, 8, 8, 8, 8, 8, 8, 8, 8, 8, 8, 8, 8, 8, 8, 8, 8, 8, 8, 8, 8, 8, 8, 8, 8, 8, 8, 8, 8, 8, 8, 8, 8, 8, 8, 8, 8, 8, 8, 8, 8, 8, 8, 8, 8, 8, 8, 8, 8, 8, 8, 8, 8, 8, 8, 8, 8, 8, 8, 8, 8, 8, 8, 8, 8, 8, 8, 8, 8, 8, 8, 8, 8, 8, 8, 8, 8, 8, 8, 8, 8, 8, 8, 8, 8, 8, 8, 8, 8, 8, 8, 8, 8, 8, 8, 8, 8, 8, 8, 8, 8, 8, 8, 8, 8, 8] (w .u8 x12.1) fun c16 =>
 K (w .i64 (x12.2 + (w .i64 (c16.toNat : Int)))) H13)
 (fun J11 => ift (decide ((x7.1 : Int) ≥ 256))
 (J11 ((sShr .u64 x7.1 8), (w .i64 (x7.2 + 8))) H8)
 (J11 (x7.1, x7.2) H8)))
 (fun J6 => ift (decide ((x2.1 : Int) ≥ 65536))
 (J6 ((sShr .u64 x2.1 16), (w .i64 (x2.2 + 16))) H3)
 (J6 (x2.1, x2.2) H3)))
 (fun J1 => ift (decide ((p_x : Int) ≥ 4294967296))
 (J1 ((sShr .u64 p_x 32), 32) H)
 (J1 (p_x, 0) H))

theorem ad_math_bits_Len64 (C : Ctx) (p_x : Int) (K : Int → Heap → Prop) (H : Heap) (h : sh_math_bits_Len64 C p_x K H) : c_math_bits_Len64 C p_x K H := by
  refine Spec.enter Try.func31 rfl Try.ntmps31 rfl ?_
  refine GC.sub [(0, .int .u64 p_x)] ⟨rfl, trivial⟩ ?_
  refine GC.seq ?_
  refine GC.region ?_
  refine GL.val trivial rfl (OV.assign (v := .int .i64 0) rfl) ?_
  refine GL.nil ?_
  obtain ⟨J1, h, hR4⟩ := h
  refine GC.join (α := Int × Int) J1 (fun x2 => [(0, .int .u64 x2.1), (2, .int .i64 x2.2)]) ?_ ?_
  · skip
    refine GC.seq ?_
    refine GC.region ?_
    refine GL.val trivial rfl (OV.move (v := .int .u64 p_x) rfl) ?_
    refine GL.val trivial rfl (OV.ibin (v := .bool (decide ((p_x : Int) ≥ 4294967296))) rfl rfl rfl) ?_
    refine GL.nil ?_
    refine GC.cond (b := decide ((p_x : Int) ≥ 4294967296)) rfl (fun hc5 => ?_) (fun hc5 => ?_)
    · replace h := And.left h hc5
      refine GC.seq ?_
      refine GC.region ?_
      refine GL.val trivial rfl (OV.move (v := .int .u64 p_x) rfl) ?_
      refine GL.val trivial rfl (OV.shr rfl rfl (by decide)) ?_
      refine GL.val trivial rfl (OV.assign (v := .int .u64 (sShr .u64 p_x 32)) rfl) ?_
      refine GL.nil ?_
      refine GC.region ?_
      refine GL.val trivial rfl (OV.assign (v := .int .i64 32) rfl) ?_
      exact GL.jump (fun _ _ h => h) ((sShr .u64 p_x 32), 32) h ⟨rfl, rfl, trivial⟩
    · replace h := And.right h hc5
      exact GC.jump (fun _ _ h => h) (p_x, 0) h ⟨rfl, rfl, trivial⟩
  · intro x2 H3 h
    replace h := hR4 x2 H3 h
    obtain ⟨J6, h, hR9⟩ := h
    refine GC.join (α := Int × Int) J6 (fun x7 => [(0, .int .u64 x7.1), (2, .int .i64 x7.2)]) ?_ ?_
    · skip
      refine GC.seq ?_
      refine GC.region ?_
      refine GL.val trivial rfl (OV.move (v := .int .u64 x2.1) rfl) ?_
      refine GL.val trivial rfl (OV.ibin (v := .bool (decide ((x2.1 : Int) ≥ 65536))) rfl rfl rfl) ?_
      refine GL.nil ?_
      refine GC.cond (b := decide ((x2.1 : Int) ≥ 65536)) rfl (fun hc10 => ?_) (fun hc10 => ?_)
      · replace h := And.left h hc10
        refine GC.seq ?_
        refine GC.region ?_
        refine GL.val trivial rfl (OV.move (v := .int .u64 x2.1) rfl) ?_
        refine GL.val trivial rfl (OV.shr rfl rfl (by decide)) ?_
        refine GL.val trivial rfl (OV.assign (v := .int .u64 (sShr .u64 x2.1 16)) rfl) ?_
        refine GL.nil ?_
        refine GC.region ?_
        refine GL.val trivial rfl (OV.move (v := .int .i64 x2.2) rfl) ?_
        refine GL.val trivial rfl (OV.ibin (v := .int .i64 (w .i64 (x2.2 + 16))) rfl rfl rfl) ?_
        refine GL.val trivial rfl (OV.assign (v := .int .i64 (w .i64 (x2.2 + 16))) rfl) ?_
        exact GL.jump (fun _ _ h => h) ((sShr .u64 x2.1 16), (w .i64 (x2.2 + 16))) h ⟨rfl, rfl, trivial⟩
      · replace h := And.right h hc10
        exact GC.jump (fun _ _ h => h) (x2.1, x2.2) h ⟨rfl, rfl, trivial⟩
    · intro x7 H8 h
      replace h := hR9 x7 H8 h
      obtain ⟨J11, h, hR14⟩ := h
      refine GC.join (α := Int × Int) J11 (fun x12 => [(0, .int .u64 x12.1), (2, .int .i64 x12.2)]) ?_ ?_
      · skip
        refine GC.seq ?_
        refine GC.region ?_
        refine GL.val trivial rfl (OV.move (v := .int .u64 x7.1) rfl) ?_
        refine GL.val trivial rfl (OV.ibin (v := .bool (decide ((x7.1 : Int) ≥ 256))) rfl rfl rfl) ?_
        refine GL.nil ?_
        refine GC.cond (b := decide ((x7.1 : Int) ≥ 256)) rfl (fun hc15 => ?_) (fun hc15 => ?_)
        · replace h := And.left h hc15
          refine GC.seq ?_
          refine GC.region ?_
          refine GL.val trivial rfl (OV.move (v := .int .u64 x7.1) rfl) ?_
          refine GL.val trivial rfl (OV.shr rfl rfl (by decide)) ?_
          refine GL.val trivial rfl (OV.assign (v := .int .u64 (sShr .u64 x7.1 8)) rfl) ?_
          refine GL.nil ?_
          refine GC.region ?_
          refine GL.val trivial rfl (OV.move (v := .int .i64 x7.2) rfl) ?_
          refine GL.val trivial rfl (OV.ibin (v := .int .i64 (w .i64 (x7.2 + 8))) rfl rfl rfl) ?_
          refine GL.val trivial rfl (OV.assign (v := .int .i64 (w .i64 (x7.2 + 8))) rfl) ?_
          exact GL.jump (fun _ _ h => h) ((sShr .u64 x7.1 8), (w .i64 (x7.2 + 8))) h ⟨rfl, rfl, trivial⟩
        · replace h := And.right h hc15
          exact GC.jump (fun _ _ h => h) (x7.1, x7.2) h ⟨rfl, rfl, trivial⟩
      · intro x12 H13 h
        replace h := hR14 x12 H13 h
        refine GC.seq ?_
        refine GC.region ?_
        refine GL.val trivial rfl (OV.move (v := .int .i64 x12.2) rfl) ?_
        refine GL.val trivial rfl (OV.move (v := .int .u64 x12.1) rfl) ?_
        refine GL.val trivial rfl (OV.convInt rfl rfl rfl) ?_
        obtain ⟨c16, ha17, hb18, h⟩ := h
        refine GL.val trivial rfl (OV.indexStr (s := [0, 1, 2, 2, 3, 3, 3, 3, 4, 4, 4, 4, 4, 4, 4, 4, 5, 5, 5, 5, 5, 5, 5, 5, 5, 5, 5, 5, 5, 5, 5, 5, 6, 6, 6, 6, 6, 6, 6, 6, 6, 6, 6, 6, 6, 6, 6, 6, 6, 6, 6, 6, 6, 6, 6, 6, 6, 6, 6, 6, 6, 6, 6, 6, 7, 7, 7, 7, 7, 7, 7, 7, 7, 7, 7, 7, 7, 7, 7, 7, 7, 7, 7, 7, 7, 7, 7, 7, 7, 7, 7, 7, 7, 7, 7, 7, 7, 7, 7, 7, 7, 7, 7, 7, 7, 7, 7, 7, 7, 7, 7, 7, 7, 7, 7, 7, 7, 7, 7, 7, 7, 7, 7, 7, 7, 7, 7, 7, 8, 8, 8, 8, 8, 8, 8, 8, 8, 8, 8, 8, 8, 8, 8, 8, 8, 8, 8, 8, 8, 8, 8, 8, 8, 8, 8, 8, 8, 8, 8, 8, 8, 8, 8, 8, 8, 8, 8, 8, 8, 8, 8, 8, 8, 8, 8, 8, 8, 8, 8, 8, 8, 8, 8, 8, 8, 8, 8, 8, 8, 8, 8, 8, 8, 8, 8, 8, 8, 8, 8, 8, 8, 8, 8, 8, 8, 8, 8, 8, 8, 8, 8, 8, 8, 8, 8, 8, 8, 8, 8, 8, 8, 8, 8, 8, 8, 8, 8, 8, 8, 8, 8, 8, 8, 8, 8, 8, 8, 8, 8, 8, 8, 8, 8, 8, 8, 8, 8, 8, 8, 8, 8, 8, 8, 8, 8, 8]) rfl rfl rfl ha17 hb18) ?_
        refine GL.val trivial rfl (OV.convInt rfl rfl rfl) ?_
        refine GL.val trivial rfl (OV.ibin (v := .int .i64 (w .i64 (x12.2 + (w .i64 (c16.toNat : Int))))) rfl rfl rfl) ?_
        refine GL.val trivial rfl (OV.assign (v := .int .i64 (w .i64 (x12.2 + (w .i64 (c16.toNat : Int))))) rfl) ?_
        refine GL.nil ?_
        exact GC.ret (fun _ _ hf hs => post_tmp1 rfl rfl hf hs ⟨(w .i64 (x12.2 + (w .i64 (c16.toNat : Int)))), rfl, h⟩)
end Sx
