/-
  Texts of this family, one behind the other: Sh1, Sh2.
-/
import Derived.Test.YtlpjpjbgfffffaaDoorA1
import Derived.Test.YtlpjpjbgfffffaaDoorProg
set_option linter.unusedVariables false
set_option maxRecDepth 100000
namespace Sx
open Go Go.Proofs
structure T_api_Value where
  Kind : Int
  N : Int
  S : Str
  L : Sl
def T_api_Value.c (x : T_api_Value) : List Value := [.int .u8 x.Kind, .int .i64 x.N, sv x.S, slv x.L]
def T_api_Value.zero : T_api_Value := ⟨0, 0, [], Sl.nil⟩
structure T_law03_Ask where
  Kind : Int
  Most : Int
def T_law03_Ask.c (x : T_law03_Ask) : List Value := [.int .u8 x.Kind, .int .i64 x.Most]
def T_law03_Ask.zero : T_law03_Ask := ⟨0, 0⟩
structure T_law03_told where
  n_ : Int
  s_ : Str
  v_ : T_api_Value
  ok_ : Bool
def T_law03_told.c (x : T_law03_told) : List Value := [.int .i64 x.n_, sv x.s_, .int .u8 x.v_.Kind, .int .i64 x.v_.N, sv x.v_.S, slv x.v_.L, .bool x.ok_]
def T_law03_told.zero : T_law03_told := ⟨0, [], T_api_Value.zero, false⟩
structure T_code_Reader where
  b_ : Sl
  turn_ : Int
  failed_ : Bool
def T_code_Reader.c (x : T_code_Reader) : List Value := [slv x.b_, .int .u8 x.turn_, .bool x.failed_]
def T_code_Reader.zero : T_code_Reader := ⟨Sl.nil, 0, false⟩
structure T_code_pen where
  b_ : Sl
  turn_ : Int
def T_code_pen.c (x : T_code_pen) : List Value := [slv x.b_, .int .u8 x.turn_]
def T_code_pen.zero : T_code_pen := ⟨Sl.nil, 0⟩

theorem ok_law03_works : CallOk Tryd.prog 11 := ⟨⟨_, Tryd.func11, rfl, by decide +kernel⟩⟩
theorem ok_code_Num : CallOk Tryd.prog 13 := ⟨⟨_, Tryd.func13, rfl, by decide +kernel⟩⟩
theorem ok_code_Count : CallOk Tryd.prog 15 := ⟨⟨_, Tryd.func15, rfl, by decide +kernel⟩⟩
theorem ok_code_Str : CallOk Tryd.prog 17 := ⟨⟨_, Tryd.func17, rfl, by decide +kernel⟩⟩
theorem ok_code_Flag : CallOk Tryd.prog 19 := ⟨⟨_, Tryd.func19, rfl, by decide +kernel⟩⟩
theorem ok_law03_behind : CallOk Tryd.prog 25 := ⟨⟨_, Tryd.func25, rfl, by decide +kernel⟩⟩
theorem ok_code_NewReader : CallOk Tryd.prog 28 := ⟨⟨_, Tryd.func28, rfl, by decide +kernel⟩⟩
theorem ok_law03_Ask_of : CallOk Tryd.prog 29 := ⟨⟨_, Tryd.func29, rfl, by decide +kernel⟩⟩
theorem ok_code_Reader_Left : CallOk Tryd.prog 30 := ⟨⟨_, Tryd.func30, rfl, by decide +kernel⟩⟩
theorem ok_law03_told_same : CallOk Tryd.prog 31 := ⟨⟨_, Tryd.func31, rfl, by decide +kernel⟩⟩
theorem ok_code_Reader_Done : CallOk Tryd.prog 32 := ⟨⟨_, Tryd.func32, rfl, by decide +kernel⟩⟩
theorem ok_code_Reader_Num : CallOk Tryd.prog 33 := ⟨⟨_, Tryd.func33, rfl, by decide +kernel⟩⟩
theorem ok_code_Reader_Str : CallOk Tryd.prog 34 := ⟨⟨_, Tryd.func34, rfl, by decide +kernel⟩⟩
theorem ok_ref02_Same : CallOk Tryd.prog 37 := ⟨⟨_, Tryd.func37, rfl, by decide +kernel⟩⟩
theorem ok_code_Reader_Value : CallOk Tryd.prog 38 := ⟨⟨_, Tryd.func38, rfl, by decide +kernel⟩⟩
theorem ok_code_Reader_OK : CallOk Tryd.prog 39 := ⟨⟨_, Tryd.func39, rfl, by decide +kernel⟩⟩
theorem ok_code_Reader_Count : CallOk Tryd.prog 40 := ⟨⟨_, Tryd.func40, rfl, by decide +kernel⟩⟩
theorem ok_code_Reader_Flag : CallOk Tryd.prog 41 := ⟨⟨_, Tryd.func41, rfl, by decide +kernel⟩⟩
theorem ok_code_behind : CallOk Tryd.prog 43 := ⟨⟨_, Tryd.func43, rfl, by decide +kernel⟩⟩
theorem ok_code_pen_num : CallOk Tryd.prog 44 := ⟨⟨_, Tryd.func44, rfl, by decide +kernel⟩⟩
theorem ok_code_pen_number : CallOk Tryd.prog 48 := ⟨⟨_, Tryd.func48, rfl, by decide +kernel⟩⟩
theorem ok_code_pen_text : CallOk Tryd.prog 49 := ⟨⟨_, Tryd.func49, rfl, by decide +kernel⟩⟩
theorem ok_code_pen_put : CallOk Tryd.prog 50 := ⟨⟨_, Tryd.func50, rfl, by decide +kernel⟩⟩
theorem ok_value_Check : CallOk Tryd.prog 51 := ⟨⟨_, Tryd.func51, rfl, by decide +kernel⟩⟩
theorem ok_slices_Clone_byte_byte : CallOk Tryd.prog 61 := ⟨⟨_, Tryd.func61, rfl, by decide +kernel⟩⟩
theorem ok_code_Reader_next : CallOk Tryd.prog 62 := ⟨⟨_, Tryd.func62, rfl, by decide +kernel⟩⟩
theorem ok_code_Reader_flip : CallOk Tryd.prog 63 := ⟨⟨_, Tryd.func63, rfl, by decide +kernel⟩⟩
theorem ok_code_Reader_number : CallOk Tryd.prog 64 := ⟨⟨_, Tryd.func64, rfl, by decide +kernel⟩⟩
theorem ok_code_Reader_ask : CallOk Tryd.prog 65 := ⟨⟨_, Tryd.func65, rfl, by decide +kernel⟩⟩
theorem ok_ref02_SameRow : CallOk Tryd.prog 66 := ⟨⟨_, Tryd.func66, rfl, by decide +kernel⟩⟩
theorem ok_code_Reader_value : CallOk Tryd.prog 67 := ⟨⟨_, Tryd.func67, rfl, by decide +kernel⟩⟩
theorem ok_code_pen_flip : CallOk Tryd.prog 68 := ⟨⟨_, Tryd.func68, rfl, by decide +kernel⟩⟩
theorem ok_math_bits_Len64 : CallOk Tryd.prog 69 := ⟨⟨_, Tryd.func69, rfl, by decide +kernel⟩⟩
theorem ok_value_depth : CallOk Tryd.prog 70 := ⟨⟨_, Tryd.func70, rfl, by decide +kernel⟩⟩
theorem ok_value_item_look : CallOk Tryd.prog 71 := ⟨⟨_, Tryd.func71, rfl, by decide +kernel⟩⟩
theorem ok_code_Reader_truth : CallOk Tryd.prog 85 := ⟨⟨_, Tryd.func85, rfl, by decide +kernel⟩⟩
theorem ok_code_Reader_whole : CallOk Tryd.prog 86 := ⟨⟨_, Tryd.func86, rfl, by decide +kernel⟩⟩
theorem ok_code_Reader_big : CallOk Tryd.prog 87 := ⟨⟨_, Tryd.func87, rfl, by decide +kernel⟩⟩
theorem ok_code_Reader_words : CallOk Tryd.prog 88 := ⟨⟨_, Tryd.func88, rfl, by decide +kernel⟩⟩
theorem ok_code_Reader_list : CallOk Tryd.prog 89 := ⟨⟨_, Tryd.func89, rfl, by decide +kernel⟩⟩
theorem ok_code_Reader_cons : CallOk Tryd.prog 90 := ⟨⟨_, Tryd.func90, rfl, by decide +kernel⟩⟩
theorem ok_value_number : CallOk Tryd.prog 91 := ⟨⟨_, Tryd.func91, rfl, by decide +kernel⟩⟩
theorem ok_strings_Cut : CallOk Tryd.prog 92 := ⟨⟨_, Tryd.func92, rfl, by decide +kernel⟩⟩
theorem ok_value_name : CallOk Tryd.prog 93 := ⟨⟨_, Tryd.func93, rfl, by decide +kernel⟩⟩
theorem ok_strings_TrimPrefix : CallOk Tryd.prog 96 := ⟨⟨_, Tryd.func96, rfl, by decide +kernel⟩⟩
theorem ok_strings_Trim : CallOk Tryd.prog 97 := ⟨⟨_, Tryd.func97, rfl, by decide +kernel⟩⟩
theorem ok_internal_stringslite_Cut : CallOk Tryd.prog 98 := ⟨⟨_, Tryd.func98, rfl, by decide +kernel⟩⟩
theorem ok_internal_stringslite_TrimPrefix : CallOk Tryd.prog 101 := ⟨⟨_, Tryd.func101, rfl, by decide +kernel⟩⟩
theorem ok_strings_trimLeftByte : CallOk Tryd.prog 102 := ⟨⟨_, Tryd.func102, rfl, by decide +kernel⟩⟩
theorem ok_strings_trimRightByte : CallOk Tryd.prog 103 := ⟨⟨_, Tryd.func103, rfl, by decide +kernel⟩⟩
theorem ok_strings_makeASCIISet : CallOk Tryd.prog 104 := ⟨⟨_, Tryd.func104, rfl, by decide +kernel⟩⟩
theorem ok_strings_trimLeftASCII : CallOk Tryd.prog 105 := ⟨⟨_, Tryd.func105, rfl, by decide +kernel⟩⟩
theorem ok_strings_trimRightASCII : CallOk Tryd.prog 106 := ⟨⟨_, Tryd.func106, rfl, by decide +kernel⟩⟩
theorem ok_strings_trimLeftUnicode : CallOk Tryd.prog 107 := ⟨⟨_, Tryd.func107, rfl, by decide +kernel⟩⟩
theorem ok_strings_trimRightUnicode : CallOk Tryd.prog 108 := ⟨⟨_, Tryd.func108, rfl, by decide +kernel⟩⟩
theorem ok_internal_stringslite_Index : CallOk Tryd.prog 109 := ⟨⟨_, Tryd.func109, rfl, by decide +kernel⟩⟩
theorem ok_internal_stringslite_HasPrefix : CallOk Tryd.prog 110 := ⟨⟨_, Tryd.func110, rfl, by decide +kernel⟩⟩
theorem ok_strings_asciiSet_contains : CallOk Tryd.prog 111 := ⟨⟨_, Tryd.func111, rfl, by decide +kernel⟩⟩
theorem ok_internal_stringslite_IndexByte : CallOk Tryd.prog 115 := ⟨⟨_, Tryd.func115, rfl, by decide +kernel⟩⟩
theorem ok_internal_bytealg_Cutover : CallOk Tryd.prog 117 := ⟨⟨_, Tryd.func117, rfl, by decide +kernel⟩⟩
theorem ok_internal_bytealg_IndexRabinKarp_string : CallOk Tryd.prog 118 := ⟨⟨_, Tryd.func118, rfl, by decide +kernel⟩⟩
theorem ext_internal_bytealg_IndexByteString : ExtOk Tryd.prog 122 Extern.BytealgIndexByte.indexByte := ⟨⟨_, Tryd.func122, by kernel_rfl, by kernel_rfl, by kernel_rfl, by kernel_rfl⟩⟩

def c_law03_CodeBehind (C : Ctx) (p_b : Sl) (p_l : Sl) (p_tail : Sl) (K : Bool → Heap → Prop) (H : Heap) : Prop :=
  Spec Tryd.prog C 6 [slv p_b, slv p_l, slv p_tail] H (fun v H2 => ∃ (r0 : Bool), v = .bool r0 ∧ K r0 H2)
theorem c_law03_CodeBehind.mono {C : Ctx} {p_b : Sl} {p_l : Sl} {p_tail : Sl} {K K2 : Bool → Heap → Prop} {H : Heap} (h : c_law03_CodeBehind C p_b p_l p_tail K H) (hk : ∀ r0 H2, K r0 H2 → K2 r0 H2) : c_law03_CodeBehind C p_b p_l p_tail K2 H :=
  Spec.mono h fun _ H2 ⟨r0, hv, h2⟩ => ⟨r0, hv, hk r0 H2 h2⟩
theorem c_law03_CodeBehind.gh {C : Ctx} {p_b : Sl} {p_l : Sl} {p_tail : Sl} {K : Bool → Heap → Prop} {H : Heap} (h : c_law03_CodeBehind C p_b p_l p_tail (fun r0 H2 => ∃ H0, Gh C H2 H0 ∧ K r0 H0) H) : c_law03_CodeBehind C p_b p_l p_tail K H :=
  Spec.gh (Spec.mono h fun _ H2 ⟨r0, hv, H0, hg, hk⟩ => ⟨H0, hg, r0, hv, hk⟩)
def c_law03_works (C : Ctx) (K : Bool → Heap → Prop) (H : Heap) : Prop :=
  Spec Tryd.prog C 11 [] H (fun v H2 => ∃ (r0 : Bool), v = .bool r0 ∧ K r0 H2)
theorem c_law03_works.mono {C : Ctx} {K K2 : Bool → Heap → Prop} {H : Heap} (h : c_law03_works C  K H) (hk : ∀ r0 H2, K r0 H2 → K2 r0 H2) : c_law03_works C  K2 H :=
  Spec.mono h fun _ H2 ⟨r0, hv, h2⟩ => ⟨r0, hv, hk r0 H2 h2⟩
theorem c_law03_works.gh {C : Ctx} {K : Bool → Heap → Prop} {H : Heap} (h : c_law03_works C  (fun r0 H2 => ∃ H0, Gh C H2 H0 ∧ K r0 H0) H) : c_law03_works C  K H :=
  Spec.gh (Spec.mono h fun _ H2 ⟨r0, hv, H0, hg, hk⟩ => ⟨H0, hg, r0, hv, hk⟩)
def c_code_Num (C : Ctx) (p_b : Sl) (p_n : Int) (K : Sl → Heap → Prop) (H : Heap) : Prop :=
  Spec Tryd.prog C 13 [slv p_b, .int .i64 p_n] H (fun v H2 => ∃ (r0 : Sl), v = slv r0 ∧ K r0 H2)
theorem c_code_Num.mono {C : Ctx} {p_b : Sl} {p_n : Int} {K K2 : Sl → Heap → Prop} {H : Heap} (h : c_code_Num C p_b p_n K H) (hk : ∀ r0 H2, K r0 H2 → K2 r0 H2) : c_code_Num C p_b p_n K2 H :=
  Spec.mono h fun _ H2 ⟨r0, hv, h2⟩ => ⟨r0, hv, hk r0 H2 h2⟩
theorem c_code_Num.gh {C : Ctx} {p_b : Sl} {p_n : Int} {K : Sl → Heap → Prop} {H : Heap} (h : c_code_Num C p_b p_n (fun r0 H2 => ∃ H0, Gh C H2 H0 ∧ K r0 H0) H) : c_code_Num C p_b p_n K H :=
  Spec.gh (Spec.mono h fun _ H2 ⟨r0, hv, H0, hg, hk⟩ => ⟨H0, hg, r0, hv, hk⟩)
def c_code_Count (C : Ctx) (p_b : Sl) (p_n : Int) (K : Sl → Heap → Prop) (H : Heap) : Prop :=
  Spec Tryd.prog C 15 [slv p_b, .int .i64 p_n] H (fun v H2 => ∃ (r0 : Sl), v = slv r0 ∧ K r0 H2)
theorem c_code_Count.mono {C : Ctx} {p_b : Sl} {p_n : Int} {K K2 : Sl → Heap → Prop} {H : Heap} (h : c_code_Count C p_b p_n K H) (hk : ∀ r0 H2, K r0 H2 → K2 r0 H2) : c_code_Count C p_b p_n K2 H :=
  Spec.mono h fun _ H2 ⟨r0, hv, h2⟩ => ⟨r0, hv, hk r0 H2 h2⟩
theorem c_code_Count.gh {C : Ctx} {p_b : Sl} {p_n : Int} {K : Sl → Heap → Prop} {H : Heap} (h : c_code_Count C p_b p_n (fun r0 H2 => ∃ H0, Gh C H2 H0 ∧ K r0 H0) H) : c_code_Count C p_b p_n K H :=
  Spec.gh (Spec.mono h fun _ H2 ⟨r0, hv, H0, hg, hk⟩ => ⟨H0, hg, r0, hv, hk⟩)
def c_code_Str (C : Ctx) (p_b : Sl) (p_s : Str) (K : Sl → Heap → Prop) (H : Heap) : Prop :=
  Spec Tryd.prog C 17 [slv p_b, sv p_s] H (fun v H2 => ∃ (r0 : Sl), v = slv r0 ∧ K r0 H2)
theorem c_code_Str.mono {C : Ctx} {p_b : Sl} {p_s : Str} {K K2 : Sl → Heap → Prop} {H : Heap} (h : c_code_Str C p_b p_s K H) (hk : ∀ r0 H2, K r0 H2 → K2 r0 H2) : c_code_Str C p_b p_s K2 H :=
  Spec.mono h fun _ H2 ⟨r0, hv, h2⟩ => ⟨r0, hv, hk r0 H2 h2⟩
theorem c_code_Str.gh {C : Ctx} {p_b : Sl} {p_s : Str} {K : Sl → Heap → Prop} {H : Heap} (h : c_code_Str C p_b p_s (fun r0 H2 => ∃ H0, Gh C H2 H0 ∧ K r0 H0) H) : c_code_Str C p_b p_s K H :=
  Spec.gh (Spec.mono h fun _ H2 ⟨r0, hv, H0, hg, hk⟩ => ⟨H0, hg, r0, hv, hk⟩)
def c_code_Flag (C : Ctx) (p_b : Sl) (p_v : Bool) (K : Sl → Heap → Prop) (H : Heap) : Prop :=
  Spec Tryd.prog C 19 [slv p_b, .bool p_v] H (fun v H2 => ∃ (r0 : Sl), v = slv r0 ∧ K r0 H2)
theorem c_code_Flag.mono {C : Ctx} {p_b : Sl} {p_v : Bool} {K K2 : Sl → Heap → Prop} {H : Heap} (h : c_code_Flag C p_b p_v K H) (hk : ∀ r0 H2, K r0 H2 → K2 r0 H2) : c_code_Flag C p_b p_v K2 H :=
  Spec.mono h fun _ H2 ⟨r0, hv, h2⟩ => ⟨r0, hv, hk r0 H2 h2⟩
theorem c_code_Flag.gh {C : Ctx} {p_b : Sl} {p_v : Bool} {K : Sl → Heap → Prop} {H : Heap} (h : c_code_Flag C p_b p_v (fun r0 H2 => ∃ H0, Gh C H2 H0 ∧ K r0 H0) H) : c_code_Flag C p_b p_v K H :=
  Spec.gh (Spec.mono h fun _ H2 ⟨r0, hv, H0, hg, hk⟩ => ⟨H0, hg, r0, hv, hk⟩)
def c_law03_behind (C : Ctx) (p_a : Sl) (p_b : Sl) (K : Sl → Heap → Prop) (H : Heap) : Prop :=
  Spec Tryd.prog C 25 [slv p_a, slv p_b] H (fun v H2 => ∃ (r0 : Sl), v = slv r0 ∧ K r0 H2)
theorem c_law03_behind.mono {C : Ctx} {p_a : Sl} {p_b : Sl} {K K2 : Sl → Heap → Prop} {H : Heap} (h : c_law03_behind C p_a p_b K H) (hk : ∀ r0 H2, K r0 H2 → K2 r0 H2) : c_law03_behind C p_a p_b K2 H :=
  Spec.mono h fun _ H2 ⟨r0, hv, h2⟩ => ⟨r0, hv, hk r0 H2 h2⟩
theorem c_law03_behind.gh {C : Ctx} {p_a : Sl} {p_b : Sl} {K : Sl → Heap → Prop} {H : Heap} (h : c_law03_behind C p_a p_b (fun r0 H2 => ∃ H0, Gh C H2 H0 ∧ K r0 H0) H) : c_law03_behind C p_a p_b K H :=
  Spec.gh (Spec.mono h fun _ H2 ⟨r0, hv, H0, hg, hk⟩ => ⟨H0, hg, r0, hv, hk⟩)
def c_code_NewReader (C : Ctx) (p_b : Sl) (K : Option (Nat × Nat) → Heap → Prop) (H : Heap) : Prop :=
  Spec Tryd.prog C 28 [slv p_b] H (fun v H2 => ∃ (r0 : Option (Nat × Nat)), v = pv r0 ∧ K r0 H2)
theorem c_code_NewReader.mono {C : Ctx} {p_b : Sl} {K K2 : Option (Nat × Nat) → Heap → Prop} {H : Heap} (h : c_code_NewReader C p_b K H) (hk : ∀ r0 H2, K r0 H2 → K2 r0 H2) : c_code_NewReader C p_b K2 H :=
  Spec.mono h fun _ H2 ⟨r0, hv, h2⟩ => ⟨r0, hv, hk r0 H2 h2⟩
theorem c_code_NewReader.gh {C : Ctx} {p_b : Sl} {K : Option (Nat × Nat) → Heap → Prop} {H : Heap} (h : c_code_NewReader C p_b (fun r0 H2 => ∃ H0, Gh C H2 H0 ∧ K r0 H0) H) : c_code_NewReader C p_b K H :=
  Spec.gh (Spec.mono h fun _ H2 ⟨r0, hv, H0, hg, hk⟩ => ⟨H0, hg, r0, hv, hk⟩)
def c_law03_Ask_of (C : Ctx) (p_a : T_law03_Ask) (p_r : Option (Nat × Nat)) (K : T_law03_told → Heap → Prop) (H : Heap) : Prop :=
  Spec Tryd.prog C 29 [.agg (T_law03_Ask.c p_a).toArray, pv p_r] H (fun v H2 => ∃ (r0 : T_law03_told), v = .agg (T_law03_told.c r0).toArray ∧ K r0 H2)
theorem c_law03_Ask_of.mono {C : Ctx} {p_a : T_law03_Ask} {p_r : Option (Nat × Nat)} {K K2 : T_law03_told → Heap → Prop} {H : Heap} (h : c_law03_Ask_of C p_a p_r K H) (hk : ∀ r0 H2, K r0 H2 → K2 r0 H2) : c_law03_Ask_of C p_a p_r K2 H :=
  Spec.mono h fun _ H2 ⟨r0, hv, h2⟩ => ⟨r0, hv, hk r0 H2 h2⟩
theorem c_law03_Ask_of.gh {C : Ctx} {p_a : T_law03_Ask} {p_r : Option (Nat × Nat)} {K : T_law03_told → Heap → Prop} {H : Heap} (h : c_law03_Ask_of C p_a p_r (fun r0 H2 => ∃ H0, Gh C H2 H0 ∧ K r0 H0) H) : c_law03_Ask_of C p_a p_r K H :=
  Spec.gh (Spec.mono h fun _ H2 ⟨r0, hv, H0, hg, hk⟩ => ⟨H0, hg, r0, hv, hk⟩)
def c_code_Reader_Left (C : Ctx) (p_r : Option (Nat × Nat)) (K : Int → Heap → Prop) (H : Heap) : Prop :=
  Spec Tryd.prog C 30 [pv p_r] H (fun v H2 => ∃ (r0 : Int), v = .int .i64 r0 ∧ K r0 H2)
theorem c_code_Reader_Left.mono {C : Ctx} {p_r : Option (Nat × Nat)} {K K2 : Int → Heap → Prop} {H : Heap} (h : c_code_Reader_Left C p_r K H) (hk : ∀ r0 H2, K r0 H2 → K2 r0 H2) : c_code_Reader_Left C p_r K2 H :=
  Spec.mono h fun _ H2 ⟨r0, hv, h2⟩ => ⟨r0, hv, hk r0 H2 h2⟩
theorem c_code_Reader_Left.gh {C : Ctx} {p_r : Option (Nat × Nat)} {K : Int → Heap → Prop} {H : Heap} (h : c_code_Reader_Left C p_r (fun r0 H2 => ∃ H0, Gh C H2 H0 ∧ K r0 H0) H) : c_code_Reader_Left C p_r K H :=
  Spec.gh (Spec.mono h fun _ H2 ⟨r0, hv, H0, hg, hk⟩ => ⟨H0, hg, r0, hv, hk⟩)
def c_law03_told_same (C : Ctx) (p_t : T_law03_told) (p_o : T_law03_told) (K : Bool → Heap → Prop) (H : Heap) : Prop :=
  Spec Tryd.prog C 31 [.agg (T_law03_told.c p_t).toArray, .agg (T_law03_told.c p_o).toArray] H (fun v H2 => ∃ (r0 : Bool), v = .bool r0 ∧ K r0 H2)
theorem c_law03_told_same.mono {C : Ctx} {p_t : T_law03_told} {p_o : T_law03_told} {K K2 : Bool → Heap → Prop} {H : Heap} (h : c_law03_told_same C p_t p_o K H) (hk : ∀ r0 H2, K r0 H2 → K2 r0 H2) : c_law03_told_same C p_t p_o K2 H :=
  Spec.mono h fun _ H2 ⟨r0, hv, h2⟩ => ⟨r0, hv, hk r0 H2 h2⟩
theorem c_law03_told_same.gh {C : Ctx} {p_t : T_law03_told} {p_o : T_law03_told} {K : Bool → Heap → Prop} {H : Heap} (h : c_law03_told_same C p_t p_o (fun r0 H2 => ∃ H0, Gh C H2 H0 ∧ K r0 H0) H) : c_law03_told_same C p_t p_o K H :=
  Spec.gh (Spec.mono h fun _ H2 ⟨r0, hv, H0, hg, hk⟩ => ⟨H0, hg, r0, hv, hk⟩)
def c_code_Reader_Done (C : Ctx) (p_r : Option (Nat × Nat)) (K : Bool → Heap → Prop) (H : Heap) : Prop :=
  Spec Tryd.prog C 32 [pv p_r] H (fun v H2 => ∃ (r0 : Bool), v = .bool r0 ∧ K r0 H2)
theorem c_code_Reader_Done.mono {C : Ctx} {p_r : Option (Nat × Nat)} {K K2 : Bool → Heap → Prop} {H : Heap} (h : c_code_Reader_Done C p_r K H) (hk : ∀ r0 H2, K r0 H2 → K2 r0 H2) : c_code_Reader_Done C p_r K2 H :=
  Spec.mono h fun _ H2 ⟨r0, hv, h2⟩ => ⟨r0, hv, hk r0 H2 h2⟩
theorem c_code_Reader_Done.gh {C : Ctx} {p_r : Option (Nat × Nat)} {K : Bool → Heap → Prop} {H : Heap} (h : c_code_Reader_Done C p_r (fun r0 H2 => ∃ H0, Gh C H2 H0 ∧ K r0 H0) H) : c_code_Reader_Done C p_r K H :=
  Spec.gh (Spec.mono h fun _ H2 ⟨r0, hv, H0, hg, hk⟩ => ⟨H0, hg, r0, hv, hk⟩)
def c_code_Reader_Num (C : Ctx) (p_r : Option (Nat × Nat)) (K : Int → Heap → Prop) (H : Heap) : Prop :=
  Spec Tryd.prog C 33 [pv p_r] H (fun v H2 => ∃ (r0 : Int), v = .int .i64 r0 ∧ K r0 H2)
theorem c_code_Reader_Num.mono {C : Ctx} {p_r : Option (Nat × Nat)} {K K2 : Int → Heap → Prop} {H : Heap} (h : c_code_Reader_Num C p_r K H) (hk : ∀ r0 H2, K r0 H2 → K2 r0 H2) : c_code_Reader_Num C p_r K2 H :=
  Spec.mono h fun _ H2 ⟨r0, hv, h2⟩ => ⟨r0, hv, hk r0 H2 h2⟩
theorem c_code_Reader_Num.gh {C : Ctx} {p_r : Option (Nat × Nat)} {K : Int → Heap → Prop} {H : Heap} (h : c_code_Reader_Num C p_r (fun r0 H2 => ∃ H0, Gh C H2 H0 ∧ K r0 H0) H) : c_code_Reader_Num C p_r K H :=
  Spec.gh (Spec.mono h fun _ H2 ⟨r0, hv, H0, hg, hk⟩ => ⟨H0, hg, r0, hv, hk⟩)
def c_code_Reader_Str (C : Ctx) (p_r : Option (Nat × Nat)) (p_most : Int) (K : Str → Heap → Prop) (H : Heap) : Prop :=
  Spec Tryd.prog C 34 [pv p_r, .int .i64 p_most] H (fun v H2 => ∃ (r0 : Str), v = sv r0 ∧ K r0 H2)
theorem c_code_Reader_Str.mono {C : Ctx} {p_r : Option (Nat × Nat)} {p_most : Int} {K K2 : Str → Heap → Prop} {H : Heap} (h : c_code_Reader_Str C p_r p_most K H) (hk : ∀ r0 H2, K r0 H2 → K2 r0 H2) : c_code_Reader_Str C p_r p_most K2 H :=
  Spec.mono h fun _ H2 ⟨r0, hv, h2⟩ => ⟨r0, hv, hk r0 H2 h2⟩
theorem c_code_Reader_Str.gh {C : Ctx} {p_r : Option (Nat × Nat)} {p_most : Int} {K : Str → Heap → Prop} {H : Heap} (h : c_code_Reader_Str C p_r p_most (fun r0 H2 => ∃ H0, Gh C H2 H0 ∧ K r0 H0) H) : c_code_Reader_Str C p_r p_most K H :=
  Spec.gh (Spec.mono h fun _ H2 ⟨r0, hv, H0, hg, hk⟩ => ⟨H0, hg, r0, hv, hk⟩)
def c_ref02_Same (C : Ctx) (p_a : T_api_Value) (p_b : T_api_Value) (K : Bool → Heap → Prop) (H : Heap) : Prop :=
  Spec Tryd.prog C 37 [.agg (T_api_Value.c p_a).toArray, .agg (T_api_Value.c p_b).toArray] H (fun v H2 => ∃ (r0 : Bool), v = .bool r0 ∧ K r0 H2)
theorem c_ref02_Same.mono {C : Ctx} {p_a : T_api_Value} {p_b : T_api_Value} {K K2 : Bool → Heap → Prop} {H : Heap} (h : c_ref02_Same C p_a p_b K H) (hk : ∀ r0 H2, K r0 H2 → K2 r0 H2) : c_ref02_Same C p_a p_b K2 H :=
  Spec.mono h fun _ H2 ⟨r0, hv, h2⟩ => ⟨r0, hv, hk r0 H2 h2⟩
theorem c_ref02_Same.gh {C : Ctx} {p_a : T_api_Value} {p_b : T_api_Value} {K : Bool → Heap → Prop} {H : Heap} (h : c_ref02_Same C p_a p_b (fun r0 H2 => ∃ H0, Gh C H2 H0 ∧ K r0 H0) H) : c_ref02_Same C p_a p_b K H :=
  Spec.gh (Spec.mono h fun _ H2 ⟨r0, hv, H0, hg, hk⟩ => ⟨H0, hg, r0, hv, hk⟩)
def c_code_Reader_Value (C : Ctx) (p_r : Option (Nat × Nat)) (K : T_api_Value → Heap → Prop) (H : Heap) : Prop :=
  Spec Tryd.prog C 38 [pv p_r] H (fun v H2 => ∃ (r0 : T_api_Value), v = .agg (T_api_Value.c r0).toArray ∧ K r0 H2)
theorem c_code_Reader_Value.mono {C : Ctx} {p_r : Option (Nat × Nat)} {K K2 : T_api_Value → Heap → Prop} {H : Heap} (h : c_code_Reader_Value C p_r K H) (hk : ∀ r0 H2, K r0 H2 → K2 r0 H2) : c_code_Reader_Value C p_r K2 H :=
  Spec.mono h fun _ H2 ⟨r0, hv, h2⟩ => ⟨r0, hv, hk r0 H2 h2⟩
theorem c_code_Reader_Value.gh {C : Ctx} {p_r : Option (Nat × Nat)} {K : T_api_Value → Heap → Prop} {H : Heap} (h : c_code_Reader_Value C p_r (fun r0 H2 => ∃ H0, Gh C H2 H0 ∧ K r0 H0) H) : c_code_Reader_Value C p_r K H :=
  Spec.gh (Spec.mono h fun _ H2 ⟨r0, hv, H0, hg, hk⟩ => ⟨H0, hg, r0, hv, hk⟩)
def c_code_Reader_OK (C : Ctx) (p_r : Option (Nat × Nat)) (K : Bool → Heap → Prop) (H : Heap) : Prop :=
  Spec Tryd.prog C 39 [pv p_r] H (fun v H2 => ∃ (r0 : Bool), v = .bool r0 ∧ K r0 H2)
theorem c_code_Reader_OK.mono {C : Ctx} {p_r : Option (Nat × Nat)} {K K2 : Bool → Heap → Prop} {H : Heap} (h : c_code_Reader_OK C p_r K H) (hk : ∀ r0 H2, K r0 H2 → K2 r0 H2) : c_code_Reader_OK C p_r K2 H :=
  Spec.mono h fun _ H2 ⟨r0, hv, h2⟩ => ⟨r0, hv, hk r0 H2 h2⟩
theorem c_code_Reader_OK.gh {C : Ctx} {p_r : Option (Nat × Nat)} {K : Bool → Heap → Prop} {H : Heap} (h : c_code_Reader_OK C p_r (fun r0 H2 => ∃ H0, Gh C H2 H0 ∧ K r0 H0) H) : c_code_Reader_OK C p_r K H :=
  Spec.gh (Spec.mono h fun _ H2 ⟨r0, hv, H0, hg, hk⟩ => ⟨H0, hg, r0, hv, hk⟩)
def c_code_Reader_Count (C : Ctx) (p_r : Option (Nat × Nat)) (p_most : Int) (K : Int → Heap → Prop) (H : Heap) : Prop :=
  Spec Tryd.prog C 40 [pv p_r, .int .i64 p_most] H (fun v H2 => ∃ (r0 : Int), v = .int .i64 r0 ∧ K r0 H2)
theorem c_code_Reader_Count.mono {C : Ctx} {p_r : Option (Nat × Nat)} {p_most : Int} {K K2 : Int → Heap → Prop} {H : Heap} (h : c_code_Reader_Count C p_r p_most K H) (hk : ∀ r0 H2, K r0 H2 → K2 r0 H2) : c_code_Reader_Count C p_r p_most K2 H :=
  Spec.mono h fun _ H2 ⟨r0, hv, h2⟩ => ⟨r0, hv, hk r0 H2 h2⟩
theorem c_code_Reader_Count.gh {C : Ctx} {p_r : Option (Nat × Nat)} {p_most : Int} {K : Int → Heap → Prop} {H : Heap} (h : c_code_Reader_Count C p_r p_most (fun r0 H2 => ∃ H0, Gh C H2 H0 ∧ K r0 H0) H) : c_code_Reader_Count C p_r p_most K H :=
  Spec.gh (Spec.mono h fun _ H2 ⟨r0, hv, H0, hg, hk⟩ => ⟨H0, hg, r0, hv, hk⟩)
def c_code_Reader_Flag (C : Ctx) (p_r : Option (Nat × Nat)) (K : Bool → Heap → Prop) (H : Heap) : Prop :=
  Spec Tryd.prog C 41 [pv p_r] H (fun v H2 => ∃ (r0 : Bool), v = .bool r0 ∧ K r0 H2)
theorem c_code_Reader_Flag.mono {C : Ctx} {p_r : Option (Nat × Nat)} {K K2 : Bool → Heap → Prop} {H : Heap} (h : c_code_Reader_Flag C p_r K H) (hk : ∀ r0 H2, K r0 H2 → K2 r0 H2) : c_code_Reader_Flag C p_r K2 H :=
  Spec.mono h fun _ H2 ⟨r0, hv, h2⟩ => ⟨r0, hv, hk r0 H2 h2⟩
theorem c_code_Reader_Flag.gh {C : Ctx} {p_r : Option (Nat × Nat)} {K : Bool → Heap → Prop} {H : Heap} (h : c_code_Reader_Flag C p_r (fun r0 H2 => ∃ H0, Gh C H2 H0 ∧ K r0 H0) H) : c_code_Reader_Flag C p_r K H :=
  Spec.gh (Spec.mono h fun _ H2 ⟨r0, hv, H0, hg, hk⟩ => ⟨H0, hg, r0, hv, hk⟩)
def c_code_behind (C : Ctx) (p_b : Sl) (K : Option (Nat × Nat) → Heap → Prop) (H : Heap) : Prop :=
  Spec Tryd.prog C 43 [slv p_b] H (fun v H2 => ∃ (r0 : Option (Nat × Nat)), v = pv r0 ∧ K r0 H2)
theorem c_code_behind.mono {C : Ctx} {p_b : Sl} {K K2 : Option (Nat × Nat) → Heap → Prop} {H : Heap} (h : c_code_behind C p_b K H) (hk : ∀ r0 H2, K r0 H2 → K2 r0 H2) : c_code_behind C p_b K2 H :=
  Spec.mono h fun _ H2 ⟨r0, hv, h2⟩ => ⟨r0, hv, hk r0 H2 h2⟩
theorem c_code_behind.gh {C : Ctx} {p_b : Sl} {K : Option (Nat × Nat) → Heap → Prop} {H : Heap} (h : c_code_behind C p_b (fun r0 H2 => ∃ H0, Gh C H2 H0 ∧ K r0 H0) H) : c_code_behind C p_b K H :=
  Spec.gh (Spec.mono h fun _ H2 ⟨r0, hv, H0, hg, hk⟩ => ⟨H0, hg, r0, hv, hk⟩)
def c_code_pen_num (C : Ctx) (p_p : Option (Nat × Nat)) (p_n : Int) (K : Heap → Prop) (H : Heap) : Prop :=
  Spec Tryd.prog C 44 [pv p_p, .int .i64 p_n] H (fun v H2 => v = .tuple #[] ∧ K H2)
theorem c_code_pen_num.mono {C : Ctx} {p_p : Option (Nat × Nat)} {p_n : Int} {K K2 : Heap → Prop} {H : Heap} (h : c_code_pen_num C p_p p_n K H) (hk : ∀  H2, K  H2 → K2  H2) : c_code_pen_num C p_p p_n K2 H :=
  Spec.mono h fun _ H2 ⟨hv, h2⟩ => ⟨hv, hk H2 h2⟩
theorem c_code_pen_num.gh {C : Ctx} {p_p : Option (Nat × Nat)} {p_n : Int} {K : Heap → Prop} {H : Heap} (h : c_code_pen_num C p_p p_n (fun  H2 => ∃ H0, Gh C H2 H0 ∧ K  H0) H) : c_code_pen_num C p_p p_n K H :=
  Spec.gh (Spec.mono h fun _ H2 ⟨hv, H0, hg, hk⟩ => ⟨H0, hg, hv, hk⟩)
def c_code_pen_number (C : Ctx) (p_p : Option (Nat × Nat)) (p_first : Int) (p_u : Int) (K : Heap → Prop) (H : Heap) : Prop :=
  Spec Tryd.prog C 48 [pv p_p, .int .u8 p_first, .int .u64 p_u] H (fun v H2 => v = .tuple #[] ∧ K H2)
theorem c_code_pen_number.mono {C : Ctx} {p_p : Option (Nat × Nat)} {p_first : Int} {p_u : Int} {K K2 : Heap → Prop} {H : Heap} (h : c_code_pen_number C p_p p_first p_u K H) (hk : ∀  H2, K  H2 → K2  H2) : c_code_pen_number C p_p p_first p_u K2 H :=
  Spec.mono h fun _ H2 ⟨hv, h2⟩ => ⟨hv, hk H2 h2⟩
theorem c_code_pen_number.gh {C : Ctx} {p_p : Option (Nat × Nat)} {p_first : Int} {p_u : Int} {K : Heap → Prop} {H : Heap} (h : c_code_pen_number C p_p p_first p_u (fun  H2 => ∃ H0, Gh C H2 H0 ∧ K  H0) H) : c_code_pen_number C p_p p_first p_u K H :=
  Spec.gh (Spec.mono h fun _ H2 ⟨hv, H0, hg, hk⟩ => ⟨H0, hg, hv, hk⟩)
def c_code_pen_text (C : Ctx) (p_p : Option (Nat × Nat)) (p_s : Str) (K : Heap → Prop) (H : Heap) : Prop :=
  Spec Tryd.prog C 49 [pv p_p, sv p_s] H (fun v H2 => v = .tuple #[] ∧ K H2)
theorem c_code_pen_text.mono {C : Ctx} {p_p : Option (Nat × Nat)} {p_s : Str} {K K2 : Heap → Prop} {H : Heap} (h : c_code_pen_text C p_p p_s K H) (hk : ∀  H2, K  H2 → K2  H2) : c_code_pen_text C p_p p_s K2 H :=
  Spec.mono h fun _ H2 ⟨hv, h2⟩ => ⟨hv, hk H2 h2⟩
theorem c_code_pen_text.gh {C : Ctx} {p_p : Option (Nat × Nat)} {p_s : Str} {K : Heap → Prop} {H : Heap} (h : c_code_pen_text C p_p p_s (fun  H2 => ∃ H0, Gh C H2 H0 ∧ K  H0) H) : c_code_pen_text C p_p p_s K H :=
  Spec.gh (Spec.mono h fun _ H2 ⟨hv, H0, hg, hk⟩ => ⟨H0, hg, hv, hk⟩)
def c_code_pen_put (C : Ctx) (p_p : Option (Nat × Nat)) (p_l : Sl) (K : Heap → Prop) (H : Heap) : Prop :=
  Spec Tryd.prog C 50 [pv p_p, slv p_l] H (fun v H2 => v = .tuple #[] ∧ K H2)
theorem c_code_pen_put.mono {C : Ctx} {p_p : Option (Nat × Nat)} {p_l : Sl} {K K2 : Heap → Prop} {H : Heap} (h : c_code_pen_put C p_p p_l K H) (hk : ∀  H2, K  H2 → K2  H2) : c_code_pen_put C p_p p_l K2 H :=
  Spec.mono h fun _ H2 ⟨hv, h2⟩ => ⟨hv, hk H2 h2⟩
theorem c_code_pen_put.gh {C : Ctx} {p_p : Option (Nat × Nat)} {p_l : Sl} {K : Heap → Prop} {H : Heap} (h : c_code_pen_put C p_p p_l (fun  H2 => ∃ H0, Gh C H2 H0 ∧ K  H0) H) : c_code_pen_put C p_p p_l K H :=
  Spec.gh (Spec.mono h fun _ H2 ⟨hv, H0, hg, hk⟩ => ⟨H0, hg, hv, hk⟩)
def c_value_Check (C : Ctx) (p_v : T_api_Value) (K : Int → Heap → Prop) (H : Heap) : Prop :=
  Spec Tryd.prog C 51 [.agg (T_api_Value.c p_v).toArray] H (fun v H2 => ∃ (r0 : Int), v = .int .i64 r0 ∧ K r0 H2)
theorem c_value_Check.mono {C : Ctx} {p_v : T_api_Value} {K K2 : Int → Heap → Prop} {H : Heap} (h : c_value_Check C p_v K H) (hk : ∀ r0 H2, K r0 H2 → K2 r0 H2) : c_value_Check C p_v K2 H :=
  Spec.mono h fun _ H2 ⟨r0, hv, h2⟩ => ⟨r0, hv, hk r0 H2 h2⟩
theorem c_value_Check.gh {C : Ctx} {p_v : T_api_Value} {K : Int → Heap → Prop} {H : Heap} (h : c_value_Check C p_v (fun r0 H2 => ∃ H0, Gh C H2 H0 ∧ K r0 H0) H) : c_value_Check C p_v K H :=
  Spec.gh (Spec.mono h fun _ H2 ⟨r0, hv, H0, hg, hk⟩ => ⟨H0, hg, r0, hv, hk⟩)
def c_slices_Clone_byte_byte (C : Ctx) (p_s : Sl) (K : Sl → Heap → Prop) (H : Heap) : Prop :=
  Spec Tryd.prog C 61 [slv p_s] H (fun v H2 => ∃ (r0 : Sl), v = slv r0 ∧ K r0 H2)
theorem c_slices_Clone_byte_byte.mono {C : Ctx} {p_s : Sl} {K K2 : Sl → Heap → Prop} {H : Heap} (h : c_slices_Clone_byte_byte C p_s K H) (hk : ∀ r0 H2, K r0 H2 → K2 r0 H2) : c_slices_Clone_byte_byte C p_s K2 H :=
  Spec.mono h fun _ H2 ⟨r0, hv, h2⟩ => ⟨r0, hv, hk r0 H2 h2⟩
theorem c_slices_Clone_byte_byte.gh {C : Ctx} {p_s : Sl} {K : Sl → Heap → Prop} {H : Heap} (h : c_slices_Clone_byte_byte C p_s (fun r0 H2 => ∃ H0, Gh C H2 H0 ∧ K r0 H0) H) : c_slices_Clone_byte_byte C p_s K H :=
  Spec.gh (Spec.mono h fun _ H2 ⟨r0, hv, H0, hg, hk⟩ => ⟨H0, hg, r0, hv, hk⟩)
def c_code_Reader_next (C : Ctx) (p_r : Option (Nat × Nat)) (K : Int → Heap → Prop) (H : Heap) : Prop :=
  Spec Tryd.prog C 62 [pv p_r] H (fun v H2 => ∃ (r0 : Int), v = .int .u8 r0 ∧ K r0 H2)
theorem c_code_Reader_next.mono {C : Ctx} {p_r : Option (Nat × Nat)} {K K2 : Int → Heap → Prop} {H : Heap} (h : c_code_Reader_next C p_r K H) (hk : ∀ r0 H2, K r0 H2 → K2 r0 H2) : c_code_Reader_next C p_r K2 H :=
  Spec.mono h fun _ H2 ⟨r0, hv, h2⟩ => ⟨r0, hv, hk r0 H2 h2⟩
theorem c_code_Reader_next.gh {C : Ctx} {p_r : Option (Nat × Nat)} {K : Int → Heap → Prop} {H : Heap} (h : c_code_Reader_next C p_r (fun r0 H2 => ∃ H0, Gh C H2 H0 ∧ K r0 H0) H) : c_code_Reader_next C p_r K H :=
  Spec.gh (Spec.mono h fun _ H2 ⟨r0, hv, H0, hg, hk⟩ => ⟨H0, hg, r0, hv, hk⟩)
def c_code_Reader_flip (C : Ctx) (p_r : Option (Nat × Nat)) (p_is : Bool) (K : Heap → Prop) (H : Heap) : Prop :=
  Spec Tryd.prog C 63 [pv p_r, .bool p_is] H (fun v H2 => v = .tuple #[] ∧ K H2)
theorem c_code_Reader_flip.mono {C : Ctx} {p_r : Option (Nat × Nat)} {p_is : Bool} {K K2 : Heap → Prop} {H : Heap} (h : c_code_Reader_flip C p_r p_is K H) (hk : ∀  H2, K  H2 → K2  H2) : c_code_Reader_flip C p_r p_is K2 H :=
  Spec.mono h fun _ H2 ⟨hv, h2⟩ => ⟨hv, hk H2 h2⟩
theorem c_code_Reader_flip.gh {C : Ctx} {p_r : Option (Nat × Nat)} {p_is : Bool} {K : Heap → Prop} {H : Heap} (h : c_code_Reader_flip C p_r p_is (fun  H2 => ∃ H0, Gh C H2 H0 ∧ K  H0) H) : c_code_Reader_flip C p_r p_is K H :=
  Spec.gh (Spec.mono h fun _ H2 ⟨hv, H0, hg, hk⟩ => ⟨H0, hg, hv, hk⟩)
def c_code_Reader_number (C : Ctx) (p_r : Option (Nat × Nat)) (p_k : Int) (p_most : Int) (K : Int → Heap → Prop) (H : Heap) : Prop :=
  Spec Tryd.prog C 64 [pv p_r, .int .i64 p_k, .int .i64 p_most] H (fun v H2 => ∃ (r0 : Int), v = .int .u64 r0 ∧ K r0 H2)
theorem c_code_Reader_number.mono {C : Ctx} {p_r : Option (Nat × Nat)} {p_k : Int} {p_most : Int} {K K2 : Int → Heap → Prop} {H : Heap} (h : c_code_Reader_number C p_r p_k p_most K H) (hk : ∀ r0 H2, K r0 H2 → K2 r0 H2) : c_code_Reader_number C p_r p_k p_most K2 H :=
  Spec.mono h fun _ H2 ⟨r0, hv, h2⟩ => ⟨r0, hv, hk r0 H2 h2⟩
theorem c_code_Reader_number.gh {C : Ctx} {p_r : Option (Nat × Nat)} {p_k : Int} {p_most : Int} {K : Int → Heap → Prop} {H : Heap} (h : c_code_Reader_number C p_r p_k p_most (fun r0 H2 => ∃ H0, Gh C H2 H0 ∧ K r0 H0) H) : c_code_Reader_number C p_r p_k p_most K H :=
  Spec.gh (Spec.mono h fun _ H2 ⟨r0, hv, H0, hg, hk⟩ => ⟨H0, hg, r0, hv, hk⟩)
def c_code_Reader_ask (C : Ctx) (p_r : Option (Nat × Nat)) (p_ok : Bool) (K : Bool → Heap → Prop) (H : Heap) : Prop :=
  Spec Tryd.prog C 65 [pv p_r, .bool p_ok] H (fun v H2 => ∃ (r0 : Bool), v = .bool r0 ∧ K r0 H2)
theorem c_code_Reader_ask.mono {C : Ctx} {p_r : Option (Nat × Nat)} {p_ok : Bool} {K K2 : Bool → Heap → Prop} {H : Heap} (h : c_code_Reader_ask C p_r p_ok K H) (hk : ∀ r0 H2, K r0 H2 → K2 r0 H2) : c_code_Reader_ask C p_r p_ok K2 H :=
  Spec.mono h fun _ H2 ⟨r0, hv, h2⟩ => ⟨r0, hv, hk r0 H2 h2⟩
theorem c_code_Reader_ask.gh {C : Ctx} {p_r : Option (Nat × Nat)} {p_ok : Bool} {K : Bool → Heap → Prop} {H : Heap} (h : c_code_Reader_ask C p_r p_ok (fun r0 H2 => ∃ H0, Gh C H2 H0 ∧ K r0 H0) H) : c_code_Reader_ask C p_r p_ok K H :=
  Spec.gh (Spec.mono h fun _ H2 ⟨r0, hv, H0, hg, hk⟩ => ⟨H0, hg, r0, hv, hk⟩)
def c_ref02_SameRow (C : Ctx) (p_a : Sl) (p_b : Sl) (K : Bool → Heap → Prop) (H : Heap) : Prop :=
  Spec Tryd.prog C 66 [slv p_a, slv p_b] H (fun v H2 => ∃ (r0 : Bool), v = .bool r0 ∧ K r0 H2)
theorem c_ref02_SameRow.mono {C : Ctx} {p_a : Sl} {p_b : Sl} {K K2 : Bool → Heap → Prop} {H : Heap} (h : c_ref02_SameRow C p_a p_b K H) (hk : ∀ r0 H2, K r0 H2 → K2 r0 H2) : c_ref02_SameRow C p_a p_b K2 H :=
  Spec.mono h fun _ H2 ⟨r0, hv, h2⟩ => ⟨r0, hv, hk r0 H2 h2⟩
theorem c_ref02_SameRow.gh {C : Ctx} {p_a : Sl} {p_b : Sl} {K : Bool → Heap → Prop} {H : Heap} (h : c_ref02_SameRow C p_a p_b (fun r0 H2 => ∃ H0, Gh C H2 H0 ∧ K r0 H0) H) : c_ref02_SameRow C p_a p_b K H :=
  Spec.gh (Spec.mono h fun _ H2 ⟨r0, hv, H0, hg, hk⟩ => ⟨H0, hg, r0, hv, hk⟩)
def c_code_Reader_value (C : Ctx) (p_r : Option (Nat × Nat)) (p_deep : Int) (K : T_api_Value → Heap → Prop) (H : Heap) : Prop :=
  Spec Tryd.prog C 67 [pv p_r, .int .i64 p_deep] H (fun v H2 => ∃ (r0 : T_api_Value), v = .agg (T_api_Value.c r0).toArray ∧ K r0 H2)
theorem c_code_Reader_value.mono {C : Ctx} {p_r : Option (Nat × Nat)} {p_deep : Int} {K K2 : T_api_Value → Heap → Prop} {H : Heap} (h : c_code_Reader_value C p_r p_deep K H) (hk : ∀ r0 H2, K r0 H2 → K2 r0 H2) : c_code_Reader_value C p_r p_deep K2 H :=
  Spec.mono h fun _ H2 ⟨r0, hv, h2⟩ => ⟨r0, hv, hk r0 H2 h2⟩
theorem c_code_Reader_value.gh {C : Ctx} {p_r : Option (Nat × Nat)} {p_deep : Int} {K : T_api_Value → Heap → Prop} {H : Heap} (h : c_code_Reader_value C p_r p_deep (fun r0 H2 => ∃ H0, Gh C H2 H0 ∧ K r0 H0) H) : c_code_Reader_value C p_r p_deep K H :=
  Spec.gh (Spec.mono h fun _ H2 ⟨r0, hv, H0, hg, hk⟩ => ⟨H0, hg, r0, hv, hk⟩)
def c_code_pen_flip (C : Ctx) (p_p : Option (Nat × Nat)) (p_is : Bool) (K : Heap → Prop) (H : Heap) : Prop :=
  Spec Tryd.prog C 68 [pv p_p, .bool p_is] H (fun v H2 => v = .tuple #[] ∧ K H2)
theorem c_code_pen_flip.mono {C : Ctx} {p_p : Option (Nat × Nat)} {p_is : Bool} {K K2 : Heap → Prop} {H : Heap} (h : c_code_pen_flip C p_p p_is K H) (hk : ∀  H2, K  H2 → K2  H2) : c_code_pen_flip C p_p p_is K2 H :=
  Spec.mono h fun _ H2 ⟨hv, h2⟩ => ⟨hv, hk H2 h2⟩
theorem c_code_pen_flip.gh {C : Ctx} {p_p : Option (Nat × Nat)} {p_is : Bool} {K : Heap → Prop} {H : Heap} (h : c_code_pen_flip C p_p p_is (fun  H2 => ∃ H0, Gh C H2 H0 ∧ K  H0) H) : c_code_pen_flip C p_p p_is K H :=
  Spec.gh (Spec.mono h fun _ H2 ⟨hv, H0, hg, hk⟩ => ⟨H0, hg, hv, hk⟩)
def c_math_bits_Len64 (C : Ctx) (p_x : Int) (K : Int → Heap → Prop) (H : Heap) : Prop :=
  Spec Tryd.prog C 69 [.int .u64 p_x] H (fun v H2 => ∃ (r0 : Int), v = .int .i64 r0 ∧ K r0 H2)
theorem c_math_bits_Len64.mono {C : Ctx} {p_x : Int} {K K2 : Int → Heap → Prop} {H : Heap} (h : c_math_bits_Len64 C p_x K H) (hk : ∀ r0 H2, K r0 H2 → K2 r0 H2) : c_math_bits_Len64 C p_x K2 H :=
  Spec.mono h fun _ H2 ⟨r0, hv, h2⟩ => ⟨r0, hv, hk r0 H2 h2⟩
theorem c_math_bits_Len64.gh {C : Ctx} {p_x : Int} {K : Int → Heap → Prop} {H : Heap} (h : c_math_bits_Len64 C p_x (fun r0 H2 => ∃ H0, Gh C H2 H0 ∧ K r0 H0) H) : c_math_bits_Len64 C p_x K H :=
  Spec.gh (Spec.mono h fun _ H2 ⟨r0, hv, H0, hg, hk⟩ => ⟨H0, hg, r0, hv, hk⟩)
def c_value_depth (C : Ctx) (p_v : T_api_Value) (p_most : Int) (K : Int → Heap → Prop) (H : Heap) : Prop :=
  Spec Tryd.prog C 70 [.agg (T_api_Value.c p_v).toArray, .int .i64 p_most] H (fun v H2 => ∃ (r0 : Int), v = .int .i64 r0 ∧ K r0 H2)
theorem c_value_depth.mono {C : Ctx} {p_v : T_api_Value} {p_most : Int} {K K2 : Int → Heap → Prop} {H : Heap} (h : c_value_depth C p_v p_most K H) (hk : ∀ r0 H2, K r0 H2 → K2 r0 H2) : c_value_depth C p_v p_most K2 H :=
  Spec.mono h fun _ H2 ⟨r0, hv, h2⟩ => ⟨r0, hv, hk r0 H2 h2⟩
theorem c_value_depth.gh {C : Ctx} {p_v : T_api_Value} {p_most : Int} {K : Int → Heap → Prop} {H : Heap} (h : c_value_depth C p_v p_most (fun r0 H2 => ∃ H0, Gh C H2 H0 ∧ K r0 H0) H) : c_value_depth C p_v p_most K H :=
  Spec.gh (Spec.mono h fun _ H2 ⟨r0, hv, H0, hg, hk⟩ => ⟨H0, hg, r0, hv, hk⟩)
def c_value_item_look (C : Ctx) (p_v : T_api_Value) (K : Bool → Bool → Heap → Prop) (H : Heap) : Prop :=
  Spec Tryd.prog C 71 [.agg (T_api_Value.c p_v).toArray] H (fun v H2 => ∃ (r0 : Bool) (r1 : Bool), v = .tuple #[.bool r0, .bool r1] ∧ K r0 r1 H2)
theorem c_value_item_look.mono {C : Ctx} {p_v : T_api_Value} {K K2 : Bool → Bool → Heap → Prop} {H : Heap} (h : c_value_item_look C p_v K H) (hk : ∀ r0 r1 H2, K r0 r1 H2 → K2 r0 r1 H2) : c_value_item_look C p_v K2 H :=
  Spec.mono h fun _ H2 ⟨r0, r1, hv, h2⟩ => ⟨r0, r1, hv, hk r0 r1 H2 h2⟩
theorem c_value_item_look.gh {C : Ctx} {p_v : T_api_Value} {K : Bool → Bool → Heap → Prop} {H : Heap} (h : c_value_item_look C p_v (fun r0 r1 H2 => ∃ H0, Gh C H2 H0 ∧ K r0 r1 H0) H) : c_value_item_look C p_v K H :=
  Spec.gh (Spec.mono h fun _ H2 ⟨r0, r1, hv, H0, hg, hk⟩ => ⟨H0, hg, r0, r1, hv, hk⟩)
def c_code_Reader_truth (C : Ctx) (p_r : Option (Nat × Nat)) (p_v : Option (Nat × Nat)) (p_deep : Int) (K : Heap → Prop) (H : Heap) : Prop :=
  Spec Tryd.prog C 85 [pv p_r, pv p_v, .int .i64 p_deep] H (fun v H2 => v = .tuple #[] ∧ K H2)
theorem c_code_Reader_truth.mono {C : Ctx} {p_r : Option (Nat × Nat)} {p_v : Option (Nat × Nat)} {p_deep : Int} {K K2 : Heap → Prop} {H : Heap} (h : c_code_Reader_truth C p_r p_v p_deep K H) (hk : ∀  H2, K  H2 → K2  H2) : c_code_Reader_truth C p_r p_v p_deep K2 H :=
  Spec.mono h fun _ H2 ⟨hv, h2⟩ => ⟨hv, hk H2 h2⟩
theorem c_code_Reader_truth.gh {C : Ctx} {p_r : Option (Nat × Nat)} {p_v : Option (Nat × Nat)} {p_deep : Int} {K : Heap → Prop} {H : Heap} (h : c_code_Reader_truth C p_r p_v p_deep (fun  H2 => ∃ H0, Gh C H2 H0 ∧ K  H0) H) : c_code_Reader_truth C p_r p_v p_deep K H :=
  Spec.gh (Spec.mono h fun _ H2 ⟨hv, H0, hg, hk⟩ => ⟨H0, hg, hv, hk⟩)
def c_code_Reader_whole (C : Ctx) (p_r : Option (Nat × Nat)) (p_v : Option (Nat × Nat)) (p_deep : Int) (K : Heap → Prop) (H : Heap) : Prop :=
  Spec Tryd.prog C 86 [pv p_r, pv p_v, .int .i64 p_deep] H (fun v H2 => v = .tuple #[] ∧ K H2)
theorem c_code_Reader_whole.mono {C : Ctx} {p_r : Option (Nat × Nat)} {p_v : Option (Nat × Nat)} {p_deep : Int} {K K2 : Heap → Prop} {H : Heap} (h : c_code_Reader_whole C p_r p_v p_deep K H) (hk : ∀  H2, K  H2 → K2  H2) : c_code_Reader_whole C p_r p_v p_deep K2 H :=
  Spec.mono h fun _ H2 ⟨hv, h2⟩ => ⟨hv, hk H2 h2⟩
theorem c_code_Reader_whole.gh {C : Ctx} {p_r : Option (Nat × Nat)} {p_v : Option (Nat × Nat)} {p_deep : Int} {K : Heap → Prop} {H : Heap} (h : c_code_Reader_whole C p_r p_v p_deep (fun  H2 => ∃ H0, Gh C H2 H0 ∧ K  H0) H) : c_code_Reader_whole C p_r p_v p_deep K H :=
  Spec.gh (Spec.mono h fun _ H2 ⟨hv, H0, hg, hk⟩ => ⟨H0, hg, hv, hk⟩)
def c_code_Reader_big (C : Ctx) (p_r : Option (Nat × Nat)) (p_v : Option (Nat × Nat)) (p_deep : Int) (K : Heap → Prop) (H : Heap) : Prop :=
  Spec Tryd.prog C 87 [pv p_r, pv p_v, .int .i64 p_deep] H (fun v H2 => v = .tuple #[] ∧ K H2)
theorem c_code_Reader_big.mono {C : Ctx} {p_r : Option (Nat × Nat)} {p_v : Option (Nat × Nat)} {p_deep : Int} {K K2 : Heap → Prop} {H : Heap} (h : c_code_Reader_big C p_r p_v p_deep K H) (hk : ∀  H2, K  H2 → K2  H2) : c_code_Reader_big C p_r p_v p_deep K2 H :=
  Spec.mono h fun _ H2 ⟨hv, h2⟩ => ⟨hv, hk H2 h2⟩
theorem c_code_Reader_big.gh {C : Ctx} {p_r : Option (Nat × Nat)} {p_v : Option (Nat × Nat)} {p_deep : Int} {K : Heap → Prop} {H : Heap} (h : c_code_Reader_big C p_r p_v p_deep (fun  H2 => ∃ H0, Gh C H2 H0 ∧ K  H0) H) : c_code_Reader_big C p_r p_v p_deep K H :=
  Spec.gh (Spec.mono h fun _ H2 ⟨hv, H0, hg, hk⟩ => ⟨H0, hg, hv, hk⟩)
def c_code_Reader_words (C : Ctx) (p_r : Option (Nat × Nat)) (p_v : Option (Nat × Nat)) (p_deep : Int) (K : Heap → Prop) (H : Heap) : Prop :=
  Spec Tryd.prog C 88 [pv p_r, pv p_v, .int .i64 p_deep] H (fun v H2 => v = .tuple #[] ∧ K H2)
theorem c_code_Reader_words.mono {C : Ctx} {p_r : Option (Nat × Nat)} {p_v : Option (Nat × Nat)} {p_deep : Int} {K K2 : Heap → Prop} {H : Heap} (h : c_code_Reader_words C p_r p_v p_deep K H) (hk : ∀  H2, K  H2 → K2  H2) : c_code_Reader_words C p_r p_v p_deep K2 H :=
  Spec.mono h fun _ H2 ⟨hv, h2⟩ => ⟨hv, hk H2 h2⟩
theorem c_code_Reader_words.gh {C : Ctx} {p_r : Option (Nat × Nat)} {p_v : Option (Nat × Nat)} {p_deep : Int} {K : Heap → Prop} {H : Heap} (h : c_code_Reader_words C p_r p_v p_deep (fun  H2 => ∃ H0, Gh C H2 H0 ∧ K  H0) H) : c_code_Reader_words C p_r p_v p_deep K H :=
  Spec.gh (Spec.mono h fun _ H2 ⟨hv, H0, hg, hk⟩ => ⟨H0, hg, hv, hk⟩)
def c_code_Reader_list (C : Ctx) (p_r : Option (Nat × Nat)) (p_v : Option (Nat × Nat)) (p_deep : Int) (K : Heap → Prop) (H : Heap) : Prop :=
  Spec Tryd.prog C 89 [pv p_r, pv p_v, .int .i64 p_deep] H (fun v H2 => v = .tuple #[] ∧ K H2)
theorem c_code_Reader_list.mono {C : Ctx} {p_r : Option (Nat × Nat)} {p_v : Option (Nat × Nat)} {p_deep : Int} {K K2 : Heap → Prop} {H : Heap} (h : c_code_Reader_list C p_r p_v p_deep K H) (hk : ∀  H2, K  H2 → K2  H2) : c_code_Reader_list C p_r p_v p_deep K2 H :=
  Spec.mono h fun _ H2 ⟨hv, h2⟩ => ⟨hv, hk H2 h2⟩
theorem c_code_Reader_list.gh {C : Ctx} {p_r : Option (Nat × Nat)} {p_v : Option (Nat × Nat)} {p_deep : Int} {K : Heap → Prop} {H : Heap} (h : c_code_Reader_list C p_r p_v p_deep (fun  H2 => ∃ H0, Gh C H2 H0 ∧ K  H0) H) : c_code_Reader_list C p_r p_v p_deep K H :=
  Spec.gh (Spec.mono h fun _ H2 ⟨hv, H0, hg, hk⟩ => ⟨H0, hg, hv, hk⟩)
def c_code_Reader_cons (C : Ctx) (p_r : Option (Nat × Nat)) (p_v : Option (Nat × Nat)) (p_deep : Int) (K : Heap → Prop) (H : Heap) : Prop :=
  Spec Tryd.prog C 90 [pv p_r, pv p_v, .int .i64 p_deep] H (fun v H2 => v = .tuple #[] ∧ K H2)
theorem c_code_Reader_cons.mono {C : Ctx} {p_r : Option (Nat × Nat)} {p_v : Option (Nat × Nat)} {p_deep : Int} {K K2 : Heap → Prop} {H : Heap} (h : c_code_Reader_cons C p_r p_v p_deep K H) (hk : ∀  H2, K  H2 → K2  H2) : c_code_Reader_cons C p_r p_v p_deep K2 H :=
  Spec.mono h fun _ H2 ⟨hv, h2⟩ => ⟨hv, hk H2 h2⟩
theorem c_code_Reader_cons.gh {C : Ctx} {p_r : Option (Nat × Nat)} {p_v : Option (Nat × Nat)} {p_deep : Int} {K : Heap → Prop} {H : Heap} (h : c_code_Reader_cons C p_r p_v p_deep (fun  H2 => ∃ H0, Gh C H2 H0 ∧ K  H0) H) : c_code_Reader_cons C p_r p_v p_deep K H :=
  Spec.gh (Spec.mono h fun _ H2 ⟨hv, H0, hg, hk⟩ => ⟨H0, hg, hv, hk⟩)
def c_value_number (C : Ctx) (p_s : Str) (K : Int → Bool → Heap → Prop) (H : Heap) : Prop :=
  Spec Tryd.prog C 91 [sv p_s] H (fun v H2 => ∃ (r0 : Int) (r1 : Bool), v = .tuple #[.int .i64 r0, .bool r1] ∧ K r0 r1 H2)
theorem c_value_number.mono {C : Ctx} {p_s : Str} {K K2 : Int → Bool → Heap → Prop} {H : Heap} (h : c_value_number C p_s K H) (hk : ∀ r0 r1 H2, K r0 r1 H2 → K2 r0 r1 H2) : c_value_number C p_s K2 H :=
  Spec.mono h fun _ H2 ⟨r0, r1, hv, h2⟩ => ⟨r0, r1, hv, hk r0 r1 H2 h2⟩
theorem c_value_number.gh {C : Ctx} {p_s : Str} {K : Int → Bool → Heap → Prop} {H : Heap} (h : c_value_number C p_s (fun r0 r1 H2 => ∃ H0, Gh C H2 H0 ∧ K r0 r1 H0) H) : c_value_number C p_s K H :=
  Spec.gh (Spec.mono h fun _ H2 ⟨r0, r1, hv, H0, hg, hk⟩ => ⟨H0, hg, r0, r1, hv, hk⟩)
def c_strings_Cut (C : Ctx) (p_s : Str) (p_sep : Str) (K : Str → Str → Bool → Heap → Prop) (H : Heap) : Prop :=
  Spec Tryd.prog C 92 [sv p_s, sv p_sep] H (fun v H2 => ∃ (r0 : Str) (r1 : Str) (r2 : Bool), v = .tuple #[sv r0, sv r1, .bool r2] ∧ K r0 r1 r2 H2)
theorem c_strings_Cut.mono {C : Ctx} {p_s : Str} {p_sep : Str} {K K2 : Str → Str → Bool → Heap → Prop} {H : Heap} (h : c_strings_Cut C p_s p_sep K H) (hk : ∀ r0 r1 r2 H2, K r0 r1 r2 H2 → K2 r0 r1 r2 H2) : c_strings_Cut C p_s p_sep K2 H :=
  Spec.mono h fun _ H2 ⟨r0, r1, r2, hv, h2⟩ => ⟨r0, r1, r2, hv, hk r0 r1 r2 H2 h2⟩
theorem c_strings_Cut.gh {C : Ctx} {p_s : Str} {p_sep : Str} {K : Str → Str → Bool → Heap → Prop} {H : Heap} (h : c_strings_Cut C p_s p_sep (fun r0 r1 r2 H2 => ∃ H0, Gh C H2 H0 ∧ K r0 r1 r2 H0) H) : c_strings_Cut C p_s p_sep K H :=
  Spec.gh (Spec.mono h fun _ H2 ⟨r0, r1, r2, hv, H0, hg, hk⟩ => ⟨H0, hg, r0, r1, r2, hv, hk⟩)
def c_value_name (C : Ctx) (p_s : Str) (K : Bool → Heap → Prop) (H : Heap) : Prop :=
  Spec Tryd.prog C 93 [sv p_s] H (fun v H2 => ∃ (r0 : Bool), v = .bool r0 ∧ K r0 H2)
theorem c_value_name.mono {C : Ctx} {p_s : Str} {K K2 : Bool → Heap → Prop} {H : Heap} (h : c_value_name C p_s K H) (hk : ∀ r0 H2, K r0 H2 → K2 r0 H2) : c_value_name C p_s K2 H :=
  Spec.mono h fun _ H2 ⟨r0, hv, h2⟩ => ⟨r0, hv, hk r0 H2 h2⟩
theorem c_value_name.gh {C : Ctx} {p_s : Str} {K : Bool → Heap → Prop} {H : Heap} (h : c_value_name C p_s (fun r0 H2 => ∃ H0, Gh C H2 H0 ∧ K r0 H0) H) : c_value_name C p_s K H :=
  Spec.gh (Spec.mono h fun _ H2 ⟨r0, hv, H0, hg, hk⟩ => ⟨H0, hg, r0, hv, hk⟩)
def c_strings_TrimPrefix (C : Ctx) (p_s : Str) (p_prefix : Str) (K : Str → Heap → Prop) (H : Heap) : Prop :=
  Spec Tryd.prog C 96 [sv p_s, sv p_prefix] H (fun v H2 => ∃ (r0 : Str), v = sv r0 ∧ K r0 H2)
theorem c_strings_TrimPrefix.mono {C : Ctx} {p_s : Str} {p_prefix : Str} {K K2 : Str → Heap → Prop} {H : Heap} (h : c_strings_TrimPrefix C p_s p_prefix K H) (hk : ∀ r0 H2, K r0 H2 → K2 r0 H2) : c_strings_TrimPrefix C p_s p_prefix K2 H :=
  Spec.mono h fun _ H2 ⟨r0, hv, h2⟩ => ⟨r0, hv, hk r0 H2 h2⟩
theorem c_strings_TrimPrefix.gh {C : Ctx} {p_s : Str} {p_prefix : Str} {K : Str → Heap → Prop} {H : Heap} (h : c_strings_TrimPrefix C p_s p_prefix (fun r0 H2 => ∃ H0, Gh C H2 H0 ∧ K r0 H0) H) : c_strings_TrimPrefix C p_s p_prefix K H :=
  Spec.gh (Spec.mono h fun _ H2 ⟨r0, hv, H0, hg, hk⟩ => ⟨H0, hg, r0, hv, hk⟩)
def c_strings_Trim (C : Ctx) (p_s : Str) (p_cutset : Str) (K : Str → Heap → Prop) (H : Heap) : Prop :=
  Spec Tryd.prog C 97 [sv p_s, sv p_cutset] H (fun v H2 => ∃ (r0 : Str), v = sv r0 ∧ K r0 H2)
theorem c_strings_Trim.mono {C : Ctx} {p_s : Str} {p_cutset : Str} {K K2 : Str → Heap → Prop} {H : Heap} (h : c_strings_Trim C p_s p_cutset K H) (hk : ∀ r0 H2, K r0 H2 → K2 r0 H2) : c_strings_Trim C p_s p_cutset K2 H :=
  Spec.mono h fun _ H2 ⟨r0, hv, h2⟩ => ⟨r0, hv, hk r0 H2 h2⟩
theorem c_strings_Trim.gh {C : Ctx} {p_s : Str} {p_cutset : Str} {K : Str → Heap → Prop} {H : Heap} (h : c_strings_Trim C p_s p_cutset (fun r0 H2 => ∃ H0, Gh C H2 H0 ∧ K r0 H0) H) : c_strings_Trim C p_s p_cutset K H :=
  Spec.gh (Spec.mono h fun _ H2 ⟨r0, hv, H0, hg, hk⟩ => ⟨H0, hg, r0, hv, hk⟩)
def c_internal_stringslite_Cut (C : Ctx) (p_s : Str) (p_sep : Str) (K : Str → Str → Bool → Heap → Prop) (H : Heap) : Prop :=
  Spec Tryd.prog C 98 [sv p_s, sv p_sep] H (fun v H2 => ∃ (r0 : Str) (r1 : Str) (r2 : Bool), v = .tuple #[sv r0, sv r1, .bool r2] ∧ K r0 r1 r2 H2)
theorem c_internal_stringslite_Cut.mono {C : Ctx} {p_s : Str} {p_sep : Str} {K K2 : Str → Str → Bool → Heap → Prop} {H : Heap} (h : c_internal_stringslite_Cut C p_s p_sep K H) (hk : ∀ r0 r1 r2 H2, K r0 r1 r2 H2 → K2 r0 r1 r2 H2) : c_internal_stringslite_Cut C p_s p_sep K2 H :=
  Spec.mono h fun _ H2 ⟨r0, r1, r2, hv, h2⟩ => ⟨r0, r1, r2, hv, hk r0 r1 r2 H2 h2⟩
theorem c_internal_stringslite_Cut.gh {C : Ctx} {p_s : Str} {p_sep : Str} {K : Str → Str → Bool → Heap → Prop} {H : Heap} (h : c_internal_stringslite_Cut C p_s p_sep (fun r0 r1 r2 H2 => ∃ H0, Gh C H2 H0 ∧ K r0 r1 r2 H0) H) : c_internal_stringslite_Cut C p_s p_sep K H :=
  Spec.gh (Spec.mono h fun _ H2 ⟨r0, r1, r2, hv, H0, hg, hk⟩ => ⟨H0, hg, r0, r1, r2, hv, hk⟩)
def c_internal_stringslite_TrimPrefix (C : Ctx) (p_s : Str) (p_prefix : Str) (K : Str → Heap → Prop) (H : Heap) : Prop :=
  Spec Tryd.prog C 101 [sv p_s, sv p_prefix] H (fun v H2 => ∃ (r0 : Str), v = sv r0 ∧ K r0 H2)
theorem c_internal_stringslite_TrimPrefix.mono {C : Ctx} {p_s : Str} {p_prefix : Str} {K K2 : Str → Heap → Prop} {H : Heap} (h : c_internal_stringslite_TrimPrefix C p_s p_prefix K H) (hk : ∀ r0 H2, K r0 H2 → K2 r0 H2) : c_internal_stringslite_TrimPrefix C p_s p_prefix K2 H :=
  Spec.mono h fun _ H2 ⟨r0, hv, h2⟩ => ⟨r0, hv, hk r0 H2 h2⟩
theorem c_internal_stringslite_TrimPrefix.gh {C : Ctx} {p_s : Str} {p_prefix : Str} {K : Str → Heap → Prop} {H : Heap} (h : c_internal_stringslite_TrimPrefix C p_s p_prefix (fun r0 H2 => ∃ H0, Gh C H2 H0 ∧ K r0 H0) H) : c_internal_stringslite_TrimPrefix C p_s p_prefix K H :=
  Spec.gh (Spec.mono h fun _ H2 ⟨r0, hv, H0, hg, hk⟩ => ⟨H0, hg, r0, hv, hk⟩)
def c_strings_trimLeftByte (C : Ctx) (p_s : Str) (p_c : Int) (K : Str → Heap → Prop) (H : Heap) : Prop :=
  Spec Tryd.prog C 102 [sv p_s, .int .u8 p_c] H (fun v H2 => ∃ (r0 : Str), v = sv r0 ∧ K r0 H2)
theorem c_strings_trimLeftByte.mono {C : Ctx} {p_s : Str} {p_c : Int} {K K2 : Str → Heap → Prop} {H : Heap} (h : c_strings_trimLeftByte C p_s p_c K H) (hk : ∀ r0 H2, K r0 H2 → K2 r0 H2) : c_strings_trimLeftByte C p_s p_c K2 H :=
  Spec.mono h fun _ H2 ⟨r0, hv, h2⟩ => ⟨r0, hv, hk r0 H2 h2⟩
theorem c_strings_trimLeftByte.gh {C : Ctx} {p_s : Str} {p_c : Int} {K : Str → Heap → Prop} {H : Heap} (h : c_strings_trimLeftByte C p_s p_c (fun r0 H2 => ∃ H0, Gh C H2 H0 ∧ K r0 H0) H) : c_strings_trimLeftByte C p_s p_c K H :=
  Spec.gh (Spec.mono h fun _ H2 ⟨r0, hv, H0, hg, hk⟩ => ⟨H0, hg, r0, hv, hk⟩)
def c_strings_trimRightByte (C : Ctx) (p_s : Str) (p_c : Int) (K : Str → Heap → Prop) (H : Heap) : Prop :=
  Spec Tryd.prog C 103 [sv p_s, .int .u8 p_c] H (fun v H2 => ∃ (r0 : Str), v = sv r0 ∧ K r0 H2)
theorem c_strings_trimRightByte.mono {C : Ctx} {p_s : Str} {p_c : Int} {K K2 : Str → Heap → Prop} {H : Heap} (h : c_strings_trimRightByte C p_s p_c K H) (hk : ∀ r0 H2, K r0 H2 → K2 r0 H2) : c_strings_trimRightByte C p_s p_c K2 H :=
  Spec.mono h fun _ H2 ⟨r0, hv, h2⟩ => ⟨r0, hv, hk r0 H2 h2⟩
theorem c_strings_trimRightByte.gh {C : Ctx} {p_s : Str} {p_c : Int} {K : Str → Heap → Prop} {H : Heap} (h : c_strings_trimRightByte C p_s p_c (fun r0 H2 => ∃ H0, Gh C H2 H0 ∧ K r0 H0) H) : c_strings_trimRightByte C p_s p_c K H :=
  Spec.gh (Spec.mono h fun _ H2 ⟨r0, hv, H0, hg, hk⟩ => ⟨H0, hg, r0, hv, hk⟩)
def c_strings_makeASCIISet (C : Ctx) (p_chars : Str) (K : List Value → Bool → Heap → Prop) (H : Heap) : Prop :=
  Spec Tryd.prog C 104 [sv p_chars] H (fun v H2 => ∃ (r0 : List Value) (r1 : Bool), v = .tuple #[.agg (List.toArray r0), .bool r1] ∧ K r0 r1 H2)
theorem c_strings_makeASCIISet.mono {C : Ctx} {p_chars : Str} {K K2 : List Value → Bool → Heap → Prop} {H : Heap} (h : c_strings_makeASCIISet C p_chars K H) (hk : ∀ r0 r1 H2, K r0 r1 H2 → K2 r0 r1 H2) : c_strings_makeASCIISet C p_chars K2 H :=
  Spec.mono h fun _ H2 ⟨r0, r1, hv, h2⟩ => ⟨r0, r1, hv, hk r0 r1 H2 h2⟩
theorem c_strings_makeASCIISet.gh {C : Ctx} {p_chars : Str} {K : List Value → Bool → Heap → Prop} {H : Heap} (h : c_strings_makeASCIISet C p_chars (fun r0 r1 H2 => ∃ H0, Gh C H2 H0 ∧ K r0 r1 H0) H) : c_strings_makeASCIISet C p_chars K H :=
  Spec.gh (Spec.mono h fun _ H2 ⟨r0, r1, hv, H0, hg, hk⟩ => ⟨H0, hg, r0, r1, hv, hk⟩)
def c_strings_trimLeftASCII (C : Ctx) (p_s : Str) (p_as : Option (Nat × Nat)) (K : Str → Heap → Prop) (H : Heap) : Prop :=
  Spec Tryd.prog C 105 [sv p_s, pv p_as] H (fun v H2 => ∃ (r0 : Str), v = sv r0 ∧ K r0 H2)
theorem c_strings_trimLeftASCII.mono {C : Ctx} {p_s : Str} {p_as : Option (Nat × Nat)} {K K2 : Str → Heap → Prop} {H : Heap} (h : c_strings_trimLeftASCII C p_s p_as K H) (hk : ∀ r0 H2, K r0 H2 → K2 r0 H2) : c_strings_trimLeftASCII C p_s p_as K2 H :=
  Spec.mono h fun _ H2 ⟨r0, hv, h2⟩ => ⟨r0, hv, hk r0 H2 h2⟩
theorem c_strings_trimLeftASCII.gh {C : Ctx} {p_s : Str} {p_as : Option (Nat × Nat)} {K : Str → Heap → Prop} {H : Heap} (h : c_strings_trimLeftASCII C p_s p_as (fun r0 H2 => ∃ H0, Gh C H2 H0 ∧ K r0 H0) H) : c_strings_trimLeftASCII C p_s p_as K H :=
  Spec.gh (Spec.mono h fun _ H2 ⟨r0, hv, H0, hg, hk⟩ => ⟨H0, hg, r0, hv, hk⟩)
def c_strings_trimRightASCII (C : Ctx) (p_s : Str) (p_as : Option (Nat × Nat)) (K : Str → Heap → Prop) (H : Heap) : Prop :=
  Spec Tryd.prog C 106 [sv p_s, pv p_as] H (fun v H2 => ∃ (r0 : Str), v = sv r0 ∧ K r0 H2)
theorem c_strings_trimRightASCII.mono {C : Ctx} {p_s : Str} {p_as : Option (Nat × Nat)} {K K2 : Str → Heap → Prop} {H : Heap} (h : c_strings_trimRightASCII C p_s p_as K H) (hk : ∀ r0 H2, K r0 H2 → K2 r0 H2) : c_strings_trimRightASCII C p_s p_as K2 H :=
  Spec.mono h fun _ H2 ⟨r0, hv, h2⟩ => ⟨r0, hv, hk r0 H2 h2⟩
theorem c_strings_trimRightASCII.gh {C : Ctx} {p_s : Str} {p_as : Option (Nat × Nat)} {K : Str → Heap → Prop} {H : Heap} (h : c_strings_trimRightASCII C p_s p_as (fun r0 H2 => ∃ H0, Gh C H2 H0 ∧ K r0 H0) H) : c_strings_trimRightASCII C p_s p_as K H :=
  Spec.gh (Spec.mono h fun _ H2 ⟨r0, hv, H0, hg, hk⟩ => ⟨H0, hg, r0, hv, hk⟩)
def c_strings_trimLeftUnicode (C : Ctx) (p_s : Str) (p_cutset : Str) (K : Str → Heap → Prop) (H : Heap) : Prop :=
  Spec Tryd.prog C 107 [sv p_s, sv p_cutset] H (fun v H2 => ∃ (r0 : Str), v = sv r0 ∧ K r0 H2)
theorem c_strings_trimLeftUnicode.mono {C : Ctx} {p_s : Str} {p_cutset : Str} {K K2 : Str → Heap → Prop} {H : Heap} (h : c_strings_trimLeftUnicode C p_s p_cutset K H) (hk : ∀ r0 H2, K r0 H2 → K2 r0 H2) : c_strings_trimLeftUnicode C p_s p_cutset K2 H :=
  Spec.mono h fun _ H2 ⟨r0, hv, h2⟩ => ⟨r0, hv, hk r0 H2 h2⟩
theorem c_strings_trimLeftUnicode.gh {C : Ctx} {p_s : Str} {p_cutset : Str} {K : Str → Heap → Prop} {H : Heap} (h : c_strings_trimLeftUnicode C p_s p_cutset (fun r0 H2 => ∃ H0, Gh C H2 H0 ∧ K r0 H0) H) : c_strings_trimLeftUnicode C p_s p_cutset K H :=
  Spec.gh (Spec.mono h fun _ H2 ⟨r0, hv, H0, hg, hk⟩ => ⟨H0, hg, r0, hv, hk⟩)
def c_strings_trimRightUnicode (C : Ctx) (p_s : Str) (p_cutset : Str) (K : Str → Heap → Prop) (H : Heap) : Prop :=
  Spec Tryd.prog C 108 [sv p_s, sv p_cutset] H (fun v H2 => ∃ (r0 : Str), v = sv r0 ∧ K r0 H2)
theorem c_strings_trimRightUnicode.mono {C : Ctx} {p_s : Str} {p_cutset : Str} {K K2 : Str → Heap → Prop} {H : Heap} (h : c_strings_trimRightUnicode C p_s p_cutset K H) (hk : ∀ r0 H2, K r0 H2 → K2 r0 H2) : c_strings_trimRightUnicode C p_s p_cutset K2 H :=
  Spec.mono h fun _ H2 ⟨r0, hv, h2⟩ => ⟨r0, hv, hk r0 H2 h2⟩
theorem c_strings_trimRightUnicode.gh {C : Ctx} {p_s : Str} {p_cutset : Str} {K : Str → Heap → Prop} {H : Heap} (h : c_strings_trimRightUnicode C p_s p_cutset (fun r0 H2 => ∃ H0, Gh C H2 H0 ∧ K r0 H0) H) : c_strings_trimRightUnicode C p_s p_cutset K H :=
  Spec.gh (Spec.mono h fun _ H2 ⟨r0, hv, H0, hg, hk⟩ => ⟨H0, hg, r0, hv, hk⟩)
def c_internal_stringslite_Index (C : Ctx) (p_s : Str) (p_substr : Str) (K : Int → Heap → Prop) (H : Heap) : Prop :=
  Spec Tryd.prog C 109 [sv p_s, sv p_substr] H (fun v H2 => ∃ (r0 : Int), v = .int .i64 r0 ∧ K r0 H2)
theorem c_internal_stringslite_Index.mono {C : Ctx} {p_s : Str} {p_substr : Str} {K K2 : Int → Heap → Prop} {H : Heap} (h : c_internal_stringslite_Index C p_s p_substr K H) (hk : ∀ r0 H2, K r0 H2 → K2 r0 H2) : c_internal_stringslite_Index C p_s p_substr K2 H :=
  Spec.mono h fun _ H2 ⟨r0, hv, h2⟩ => ⟨r0, hv, hk r0 H2 h2⟩
theorem c_internal_stringslite_Index.gh {C : Ctx} {p_s : Str} {p_substr : Str} {K : Int → Heap → Prop} {H : Heap} (h : c_internal_stringslite_Index C p_s p_substr (fun r0 H2 => ∃ H0, Gh C H2 H0 ∧ K r0 H0) H) : c_internal_stringslite_Index C p_s p_substr K H :=
  Spec.gh (Spec.mono h fun _ H2 ⟨r0, hv, H0, hg, hk⟩ => ⟨H0, hg, r0, hv, hk⟩)
def c_internal_stringslite_HasPrefix (C : Ctx) (p_s : Str) (p_prefix : Str) (K : Bool → Heap → Prop) (H : Heap) : Prop :=
  Spec Tryd.prog C 110 [sv p_s, sv p_prefix] H (fun v H2 => ∃ (r0 : Bool), v = .bool r0 ∧ K r0 H2)
theorem c_internal_stringslite_HasPrefix.mono {C : Ctx} {p_s : Str} {p_prefix : Str} {K K2 : Bool → Heap → Prop} {H : Heap} (h : c_internal_stringslite_HasPrefix C p_s p_prefix K H) (hk : ∀ r0 H2, K r0 H2 → K2 r0 H2) : c_internal_stringslite_HasPrefix C p_s p_prefix K2 H :=
  Spec.mono h fun _ H2 ⟨r0, hv, h2⟩ => ⟨r0, hv, hk r0 H2 h2⟩
theorem c_internal_stringslite_HasPrefix.gh {C : Ctx} {p_s : Str} {p_prefix : Str} {K : Bool → Heap → Prop} {H : Heap} (h : c_internal_stringslite_HasPrefix C p_s p_prefix (fun r0 H2 => ∃ H0, Gh C H2 H0 ∧ K r0 H0) H) : c_internal_stringslite_HasPrefix C p_s p_prefix K H :=
  Spec.gh (Spec.mono h fun _ H2 ⟨r0, hv, H0, hg, hk⟩ => ⟨H0, hg, r0, hv, hk⟩)
def c_strings_asciiSet_contains (C : Ctx) (p_as : Option (Nat × Nat)) (p_c : Int) (K : Bool → Heap → Prop) (H : Heap) : Prop :=
  Spec Tryd.prog C 111 [pv p_as, .int .u8 p_c] H (fun v H2 => ∃ (r0 : Bool), v = .bool r0 ∧ K r0 H2)
theorem c_strings_asciiSet_contains.mono {C : Ctx} {p_as : Option (Nat × Nat)} {p_c : Int} {K K2 : Bool → Heap → Prop} {H : Heap} (h : c_strings_asciiSet_contains C p_as p_c K H) (hk : ∀ r0 H2, K r0 H2 → K2 r0 H2) : c_strings_asciiSet_contains C p_as p_c K2 H :=
  Spec.mono h fun _ H2 ⟨r0, hv, h2⟩ => ⟨r0, hv, hk r0 H2 h2⟩
theorem c_strings_asciiSet_contains.gh {C : Ctx} {p_as : Option (Nat × Nat)} {p_c : Int} {K : Bool → Heap → Prop} {H : Heap} (h : c_strings_asciiSet_contains C p_as p_c (fun r0 H2 => ∃ H0, Gh C H2 H0 ∧ K r0 H0) H) : c_strings_asciiSet_contains C p_as p_c K H :=
  Spec.gh (Spec.mono h fun _ H2 ⟨r0, hv, H0, hg, hk⟩ => ⟨H0, hg, r0, hv, hk⟩)
def c_internal_stringslite_IndexByte (C : Ctx) (p_s : Str) (p_c : Int) (K : Int → Heap → Prop) (H : Heap) : Prop :=
  Spec Tryd.prog C 115 [sv p_s, .int .u8 p_c] H (fun v H2 => ∃ (r0 : Int), v = .int .i64 r0 ∧ K r0 H2)
theorem c_internal_stringslite_IndexByte.mono {C : Ctx} {p_s : Str} {p_c : Int} {K K2 : Int → Heap → Prop} {H : Heap} (h : c_internal_stringslite_IndexByte C p_s p_c K H) (hk : ∀ r0 H2, K r0 H2 → K2 r0 H2) : c_internal_stringslite_IndexByte C p_s p_c K2 H :=
  Spec.mono h fun _ H2 ⟨r0, hv, h2⟩ => ⟨r0, hv, hk r0 H2 h2⟩
theorem c_internal_stringslite_IndexByte.gh {C : Ctx} {p_s : Str} {p_c : Int} {K : Int → Heap → Prop} {H : Heap} (h : c_internal_stringslite_IndexByte C p_s p_c (fun r0 H2 => ∃ H0, Gh C H2 H0 ∧ K r0 H0) H) : c_internal_stringslite_IndexByte C p_s p_c K H :=
  Spec.gh (Spec.mono h fun _ H2 ⟨r0, hv, H0, hg, hk⟩ => ⟨H0, hg, r0, hv, hk⟩)
def c_internal_bytealg_Cutover (C : Ctx) (p_n : Int) (K : Int → Heap → Prop) (H : Heap) : Prop :=
  Spec Tryd.prog C 117 [.int .i64 p_n] H (fun v H2 => ∃ (r0 : Int), v = .int .i64 r0 ∧ K r0 H2)
theorem c_internal_bytealg_Cutover.mono {C : Ctx} {p_n : Int} {K K2 : Int → Heap → Prop} {H : Heap} (h : c_internal_bytealg_Cutover C p_n K H) (hk : ∀ r0 H2, K r0 H2 → K2 r0 H2) : c_internal_bytealg_Cutover C p_n K2 H :=
  Spec.mono h fun _ H2 ⟨r0, hv, h2⟩ => ⟨r0, hv, hk r0 H2 h2⟩
theorem c_internal_bytealg_Cutover.gh {C : Ctx} {p_n : Int} {K : Int → Heap → Prop} {H : Heap} (h : c_internal_bytealg_Cutover C p_n (fun r0 H2 => ∃ H0, Gh C H2 H0 ∧ K r0 H0) H) : c_internal_bytealg_Cutover C p_n K H :=
  Spec.gh (Spec.mono h fun _ H2 ⟨r0, hv, H0, hg, hk⟩ => ⟨H0, hg, r0, hv, hk⟩)
def c_internal_bytealg_IndexRabinKarp_string (C : Ctx) (p_s : Str) (p_sep : Str) (K : Int → Heap → Prop) (H : Heap) : Prop :=
  Spec Tryd.prog C 118 [sv p_s, sv p_sep] H (fun v H2 => ∃ (r0 : Int), v = .int .i64 r0 ∧ K r0 H2)
theorem c_internal_bytealg_IndexRabinKarp_string.mono {C : Ctx} {p_s : Str} {p_sep : Str} {K K2 : Int → Heap → Prop} {H : Heap} (h : c_internal_bytealg_IndexRabinKarp_string C p_s p_sep K H) (hk : ∀ r0 H2, K r0 H2 → K2 r0 H2) : c_internal_bytealg_IndexRabinKarp_string C p_s p_sep K2 H :=
  Spec.mono h fun _ H2 ⟨r0, hv, h2⟩ => ⟨r0, hv, hk r0 H2 h2⟩
theorem c_internal_bytealg_IndexRabinKarp_string.gh {C : Ctx} {p_s : Str} {p_sep : Str} {K : Int → Heap → Prop} {H : Heap} (h : c_internal_bytealg_IndexRabinKarp_string C p_s p_sep (fun r0 H2 => ∃ H0, Gh C H2 H0 ∧ K r0 H0) H) : c_internal_bytealg_IndexRabinKarp_string C p_s p_sep K H :=
  Spec.gh (Spec.mono h fun _ H2 ⟨r0, hv, H0, hg, hk⟩ => ⟨H0, hg, r0, hv, hk⟩)
def sh_law03_CodeBehind (C : Ctx) (p_b : Sl) (p_l : Sl) (p_tail : Sl) (K : Bool → Heap → Prop) (H : Heap) : Prop :=
  jn (α := Bool) (fun b3 H9 =>
 ift b3
 (c_law03_works C (fun r11 H12 =>
 K r11 H12) H9)
 (c_code_NewReader C p_b (fun r13 H14 =>
 c_law03_behind C p_b p_tail (fun r15 H16 =>
 c_code_NewReader C r15 (fun r17 H18 =>
 lp (α := Int) 0 H18 (fun x19 J20 H21 =>
 ift (decide ((x19 : Int) < (Sl.len p_l : Int)))
 (jn (α := (Nat × Nat) × (Nat × Nat)) (fun x24 H25 =>
 ldB H25 (x24.1.1, x24.1.2 + 6) fun x181 =>
 ift (!x181)
 (ldB H25 (x24.2.1, x24.2.2 + 6) fun x184 =>
 jn (α := Bool) (fun b186 H192 =>
 K b186 H192)
 (fun J187 => ift (!x184)
 (J187 true H25)
 (c_code_Reader_Left C r17 (fun r190 H191 =>
 J187 (decide ((r190 : Int) < (Sl.len p_tail : Int))) H191) H25)))
 (ldT H25 T_law03_told.c x24.1 fun x193 =>
 ldT H25 T_law03_told.c x24.2 fun x195 =>
 c_law03_told_same C x193 x195 (fun r197 H198 =>
 jn (α := Bool) (fun b199 H207 =>
 ift b199
 (K false H207)
 (J20 (w .i64 (x19 + 1)) H207))
 (fun J200 => ift (!r197)
 (J200 true H198)
 (c_code_Reader_Left C r17 (fun r203 H204 =>
 c_code_Reader_Left C r13 (fun r205 H206 =>
 J200 ((r203 : Int) != (w .i64 (r205 + (Sl.len p_tail : Int)))) H206) H204) H198))) H25))
 (fun J23 => dr H21 fun Hs27 =>
 ixa p_l x19 fun p29 =>
 ldT Hs27 T_law03_Ask.c (p29.1, p29.2 + (x19 : Int).toNat * 2) fun x34 =>
 ixa p_l x19 fun p36 =>
 ldT Hs27 T_law03_Ask.c (p36.1, p36.2 + (x19 : Int).toNat * 2) fun x41 =>
 (c_law03_Ask_of C x34 r13 (fun r44 H45 =>
 Heap.le Hs27 H45 ∧
 (c_law03_Ask_of C x41 r17 (fun r47 H48 =>
 Heap.le Hs27 H48 ∧
 (nw (T_law03_told.c T_law03_told.zero) (fun b50 H51 =>
 Heap.le Hs27 H51 ∧
 nw (T_law03_told.c T_law03_told.zero) (fun b53 H54 =>
 Heap.le Hs27 H54 ∧
 stT (b50, 0) (T_law03_told.c r44) (fun H56 =>
 Heap.le Hs27 H56 ∧
 stT (b53, 0) (T_law03_told.c r47) (fun H57 =>
 J23 ((b50, 0), (b53, 0)) H57) H56) H54) H51) H48) ∧
 (nw (T_law03_told.c T_law03_told.zero) (fun b59 H60 =>
 Heap.le Hs27 H60 ∧
 nw (T_law03_told.c T_law03_told.zero) (fun b62 H63 =>
 Heap.le Hs27 H63 ∧
 stT (b62, 0) (T_law03_told.c r44) (fun H65 =>
 Heap.le Hs27 H65 ∧
 stT (b59, 0) (T_law03_told.c r47) (fun H66 =>
 J23 ((b62, 0), (b59, 0)) H66) H65) H63) H60) H48)) H45) ∧
 (nw (T_law03_told.c T_law03_told.zero) (fun b68 H69 =>
 Heap.le Hs27 H69 ∧
 (c_law03_Ask_of C x41 r17 (fun r71 H72 =>
 Heap.le Hs27 H72 ∧
 nw (T_law03_told.c T_law03_told.zero) (fun b74 H75 =>
 Heap.le Hs27 H75 ∧
 stT (b68, 0) (T_law03_told.c r44) (fun H77 =>
 Heap.le Hs27 H77 ∧
 stT (b74, 0) (T_law03_told.c r71) (fun H78 =>
 J23 ((b68, 0), (b74, 0)) H78) H77) H75) H72) H69) ∧
 (nw (T_law03_told.c T_law03_told.zero) (fun b80 H81 =>
 Heap.le Hs27 H81 ∧
 c_law03_Ask_of C x41 r17 (fun r83 H84 =>
 Heap.le Hs27 H84 ∧
 stT (b68, 0) (T_law03_told.c r44) (fun H86 =>
 Heap.le Hs27 H86 ∧
 stT (b80, 0) (T_law03_told.c r83) (fun H87 =>
 J23 ((b68, 0), (b80, 0)) H87) H86) H84) H81) H69)) H45) ∧
 (nw (T_law03_told.c T_law03_told.zero) (fun b89 H90 =>
 Heap.le Hs27 H90 ∧
 (c_law03_Ask_of C x41 r17 (fun r92 H93 =>
 Heap.le Hs27 H93 ∧
 nw (T_law03_told.c T_law03_told.zero) (fun b95 H96 =>
 Heap.le Hs27 H96 ∧
 stT (b95, 0) (T_law03_told.c r44) (fun H98 =>
 Heap.le Hs27 H98 ∧
 stT (b89, 0) (T_law03_told.c r92) (fun H99 =>
 J23 ((b95, 0), (b89, 0)) H99) H98) H96) H93) H90) ∧
 (nw (T_law03_told.c T_law03_told.zero) (fun b101 H102 =>
 Heap.le Hs27 H102 ∧
 c_law03_Ask_of C x41 r17 (fun r104 H105 =>
 Heap.le Hs27 H105 ∧
 stT (b101, 0) (T_law03_told.c r44) (fun H107 =>
 Heap.le Hs27 H107 ∧
 stT (b89, 0) (T_law03_told.c r104) (fun H108 =>
 J23 ((b101, 0), (b89, 0)) H108) H107) H105) H102) H90)) H45)) H21) ∧
 (nw (T_law03_told.c T_law03_told.zero) (fun b110 H111 =>
 Heap.le Hs27 H111 ∧
 (c_law03_Ask_of C x34 r13 (fun r113 H114 =>
 Heap.le Hs27 H114 ∧
 (c_law03_Ask_of C x41 r17 (fun r116 H117 =>
 Heap.le Hs27 H117 ∧
 nw (T_law03_told.c T_law03_told.zero) (fun b119 H120 =>
 Heap.le Hs27 H120 ∧
 stT (b110, 0) (T_law03_told.c r113) (fun H122 =>
 Heap.le Hs27 H122 ∧
 stT (b119, 0) (T_law03_told.c r116) (fun H123 =>
 J23 ((b110, 0), (b119, 0)) H123) H122) H120) H117) H114) ∧
 (nw (T_law03_told.c T_law03_told.zero) (fun b125 H126 =>
 Heap.le Hs27 H126 ∧
 c_law03_Ask_of C x41 r17 (fun r128 H129 =>
 Heap.le Hs27 H129 ∧
 stT (b110, 0) (T_law03_told.c r113) (fun H131 =>
 Heap.le Hs27 H131 ∧
 stT (b125, 0) (T_law03_told.c r128) (fun H132 =>
 J23 ((b110, 0), (b125, 0)) H132) H131) H129) H126) H114)) H111) ∧
 (nw (T_law03_told.c T_law03_told.zero) (fun b134 H135 =>
 Heap.le Hs27 H135 ∧
 c_law03_Ask_of C x34 r13 (fun r137 H138 =>
 Heap.le Hs27 H138 ∧
 c_law03_Ask_of C x41 r17 (fun r140 H141 =>
 Heap.le Hs27 H141 ∧
 stT (b110, 0) (T_law03_told.c r137) (fun H143 =>
 Heap.le Hs27 H143 ∧
 stT (b134, 0) (T_law03_told.c r140) (fun H144 =>
 J23 ((b110, 0), (b134, 0)) H144) H143) H141) H138) H135) H111)) H21) ∧
 (nw (T_law03_told.c T_law03_told.zero) (fun b146 H147 =>
 Heap.le Hs27 H147 ∧
 (c_law03_Ask_of C x34 r13 (fun r149 H150 =>
 Heap.le Hs27 H150 ∧
 (c_law03_Ask_of C x41 r17 (fun r152 H153 =>
 Heap.le Hs27 H153 ∧
 nw (T_law03_told.c T_law03_told.zero) (fun b155 H156 =>
 Heap.le Hs27 H156 ∧
 stT (b155, 0) (T_law03_told.c r149) (fun H158 =>
 Heap.le Hs27 H158 ∧
 stT (b146, 0) (T_law03_told.c r152) (fun H159 =>
 J23 ((b155, 0), (b146, 0)) H159) H158) H156) H153) H150) ∧
 (nw (T_law03_told.c T_law03_told.zero) (fun b161 H162 =>
 Heap.le Hs27 H162 ∧
 c_law03_Ask_of C x41 r17 (fun r164 H165 =>
 Heap.le Hs27 H165 ∧
 stT (b161, 0) (T_law03_told.c r149) (fun H167 =>
 Heap.le Hs27 H167 ∧
 stT (b146, 0) (T_law03_told.c r164) (fun H168 =>
 J23 ((b161, 0), (b146, 0)) H168) H167) H165) H162) H150)) H147) ∧
 (nw (T_law03_told.c T_law03_told.zero) (fun b170 H171 =>
 Heap.le Hs27 H171 ∧
 c_law03_Ask_of C x34 r13 (fun r173 H174 =>
 Heap.le Hs27 H174 ∧
 c_law03_Ask_of C x41 r17 (fun r176 H177 =>
 Heap.le Hs27 H177 ∧
 stT (b170, 0) (T_law03_told.c r173) (fun H179 =>
 Heap.le Hs27 H179 ∧
 stT (b146, 0) (T_law03_told.c r176) (fun H180 =>
 J23 ((b170, 0), (b146, 0)) H180) H179) H177) H174) H171) H147)) H21)))
 (K true H21))) H16) H14) H9))
 (fun J4 => ift (((decide (((Sl.len p_b : Int) : Int) > 3000)) || (decide (((Sl.len p_l : Int) : Int) > 60))) || (decide (((Sl.len p_tail : Int) : Int) > 3000)))
 (J4 true H)
 (c_law03_works C (fun r7 H8 =>
 J4 (!r7) H8) H))

theorem ad_law03_CodeBehind (C : Ctx) (p_b : Sl) (p_l : Sl) (p_tail : Sl) (K : Bool → Heap → Prop) (H : Heap) (h : sh_law03_CodeBehind C p_b p_l p_tail K H) : c_law03_CodeBehind C p_b p_l p_tail K H := by
  refine Spec.enter Tryd.func6 rfl Tryd.ntmps6 rfl ?_
  refine GC.sub [(0, slv p_b), (1, slv p_l), (2, slv p_tail)] ⟨rfl, rfl, rfl, trivial⟩ ?_
  refine GC.seq ?_
  refine GC.region ?_
  refine GL.val trivial rfl (OV.assign (v := .bool false) rfl) ?_
  refine GL.nil ?_
  refine GC.seq ?_
  refine GC.seq ?_
  refine GC.region ?_
  refine GL.val trivial rfl (OV.move (v := slv p_b) rfl) ?_
  refine GL.val trivial rfl (OV.lenSl (s := p_b) rfl rfl) ?_
  refine GL.val trivial rfl (OV.ibin (v := .bool (decide (((Sl.len p_b : Int) : Int) > 3000))) rfl rfl rfl) ?_
  refine GL.val trivial rfl (OV.move (v := .bool (decide (((Sl.len p_b : Int) : Int) > 3000))) rfl) ?_
  refine GL.cut0 4 [(19, .bool ((decide (((Sl.len p_b : Int) : Int) > 3000)) || (decide (((Sl.len p_l : Int) : Int) > 60)))), (0, slv p_b), (1, slv p_l), (2, slv p_tail)] ?_ ?_
  · rcases Bool.eq_false_or_eq_true (decide (((Sl.len p_b : Int) : Int) > 3000)) with hc1 | hc1
    · skip
      refine GL.skip ⟨_, rfl, .inl ⟨_, rfl, hc1⟩⟩ rfl ?_
      refine GL.skip ⟨_, rfl, .inl ⟨_, rfl, hc1⟩⟩ rfl ?_
      refine GL.skip ⟨_, rfl, .inl ⟨_, rfl, hc1⟩⟩ rfl ?_
      refine GL.val trivial rfl (OV.pickT (b := decide (((Sl.len p_b : Int) : Int) > 3000)) (v := .bool true) rfl hc1 rfl) ?_
      exact GL.jump0 (fun _ _ h => h) () rfl ⟨(by rw [hc1]; rfl), rfl, rfl, rfl, trivial⟩
    · skip
      refine GL.val ⟨_, _, rfl, rfl, hc1⟩ rfl (OV.move (v := slv p_l) rfl) ?_
      refine GL.val ⟨_, _, rfl, rfl, hc1⟩ rfl (OV.lenSl (s := p_l) rfl rfl) ?_
      refine GL.val ⟨_, _, rfl, rfl, hc1⟩ rfl (OV.ibin (v := .bool (decide (((Sl.len p_l : Int) : Int) > 60))) rfl rfl rfl) ?_
      refine GL.val trivial rfl (OV.pickF (b := decide (((Sl.len p_b : Int) : Int) > 3000)) (v := .bool (decide (((Sl.len p_l : Int) : Int) > 60))) rfl hc1 rfl) ?_
      exact GL.jump0 (fun _ _ h => h) () rfl ⟨(by rw [hc1]; rfl), rfl, rfl, rfl, trivial⟩
  refine GL.val trivial rfl (OV.move (v := .bool ((decide (((Sl.len p_b : Int) : Int) > 3000)) || (decide (((Sl.len p_l : Int) : Int) > 60)))) rfl) ?_
  refine GL.cut0 4 [(24, .bool (((decide (((Sl.len p_b : Int) : Int) > 3000)) || (decide (((Sl.len p_l : Int) : Int) > 60))) || (decide (((Sl.len p_tail : Int) : Int) > 3000)))), (0, slv p_b), (1, slv p_l), (2, slv p_tail)] ?_ ?_
  · rcases Bool.eq_false_or_eq_true ((decide (((Sl.len p_b : Int) : Int) > 3000)) || (decide (((Sl.len p_l : Int) : Int) > 60))) with hc2 | hc2
    · skip
      refine GL.skip ⟨_, rfl, .inl ⟨_, rfl, hc2⟩⟩ rfl ?_
      refine GL.skip ⟨_, rfl, .inl ⟨_, rfl, hc2⟩⟩ rfl ?_
      refine GL.skip ⟨_, rfl, .inl ⟨_, rfl, hc2⟩⟩ rfl ?_
      refine GL.val trivial rfl (OV.pickT (b := (decide (((Sl.len p_b : Int) : Int) > 3000)) || (decide (((Sl.len p_l : Int) : Int) > 60))) (v := .bool true) rfl hc2 rfl) ?_
      exact GL.jump0 (fun _ _ h => h) () rfl ⟨(by rw [hc2]; rfl), rfl, rfl, rfl, trivial⟩
    · skip
      refine GL.val ⟨_, _, rfl, rfl, hc2⟩ rfl (OV.move (v := slv p_tail) rfl) ?_
      refine GL.val ⟨_, _, rfl, rfl, hc2⟩ rfl (OV.lenSl (s := p_tail) rfl rfl) ?_
      refine GL.val ⟨_, _, rfl, rfl, hc2⟩ rfl (OV.ibin (v := .bool (decide (((Sl.len p_tail : Int) : Int) > 3000))) rfl rfl rfl) ?_
      refine GL.val trivial rfl (OV.pickF (b := (decide (((Sl.len p_b : Int) : Int) > 3000)) || (decide (((Sl.len p_l : Int) : Int) > 60))) (v := .bool (decide (((Sl.len p_tail : Int) : Int) > 3000))) rfl hc2 rfl) ?_
      exact GL.jump0 (fun _ _ h => h) () rfl ⟨(by rw [hc2]; rfl), rfl, rfl, rfl, trivial⟩
  refine GL.val trivial rfl (OV.move (v := .bool (((decide (((Sl.len p_b : Int) : Int) > 3000)) || (decide (((Sl.len p_l : Int) : Int) > 60))) || (decide (((Sl.len p_tail : Int) : Int) > 3000)))) rfl) ?_
  obtain ⟨J4, h, hR5⟩ := h
  refine GL.cut (α := Bool) 3 J4 (fun b3 => [(28, .bool b3), (0, slv p_b), (1, slv p_l), (2, slv p_tail)]) ?_ ?_
  · rcases Bool.eq_false_or_eq_true (((decide (((Sl.len p_b : Int) : Int) > 3000)) || (decide (((Sl.len p_l : Int) : Int) > 60))) || (decide (((Sl.len p_tail : Int) : Int) > 3000))) with hc6 | hc6
    · skip
      replace h := And.left h hc6
      refine GL.skip ⟨_, rfl, .inl ⟨_, rfl, hc6⟩⟩ rfl ?_
      refine GL.skip ⟨_, rfl, .inl ⟨_, rfl, hc6⟩⟩ rfl ?_
      refine GL.val trivial rfl (OV.pickT (b := ((decide (((Sl.len p_b : Int) : Int) > 3000)) || (decide (((Sl.len p_l : Int) : Int) > 60))) || (decide (((Sl.len p_tail : Int) : Int) > 3000))) (v := .bool true) rfl hc6 rfl) ?_
      exact GL.jump (fun _ _ h => h) true h ⟨rfl, rfl, rfl, rfl, trivial⟩
    · skip
      replace h := And.right h hc6
      refine GL.call h ⟨_, _, rfl, rfl, hc6⟩ rfl ok_law03_works (vs := []) rfl ?_
      rintro _ H8 ⟨r7, rfl, h⟩
      refine GL.val ⟨_, _, rfl, rfl, hc6⟩ rfl (OV.not rfl) ?_
      refine GL.val trivial rfl (OV.pickF (b := ((decide (((Sl.len p_b : Int) : Int) > 3000)) || (decide (((Sl.len p_l : Int) : Int) > 60))) || (decide (((Sl.len p_tail : Int) : Int) > 3000))) (v := .bool (!r7)) rfl hc6 rfl) ?_
      exact GL.jump (fun _ _ h => h) (!r7) h ⟨rfl, rfl, rfl, rfl, trivial⟩
  intro b3 H9 h
  replace h := hR5 b3 H9 h
  refine GL.nil ?_
  refine GC.cond (b := b3) rfl (fun hc10 => ?_) (fun hc10 => ?_)
  · replace h := And.left h hc10
    refine GC.seq ?_
    refine GC.region ?_
    refine GL.call h trivial rfl ok_law03_works (vs := []) rfl ?_
    rintro _ H12 ⟨r11, rfl, h⟩
    refine GL.val trivial rfl (OV.assign (v := .bool r11) rfl) ?_
    refine GL.nil ?_
    exact GC.ret (fun _ _ hf hs => post_tmp1 rfl rfl hf hs ⟨r11, rfl, h⟩)
  · replace h := And.right h hc10
    refine GC.skip ?_
    refine GC.seq ?_
    refine GC.region ?_
    refine GL.val trivial rfl (OV.move (v := slv p_b) rfl) ?_
    refine GL.call h trivial rfl ok_code_NewReader (vs := [slv p_b]) rfl ?_
    rintro _ H14 ⟨r13, rfl, h⟩
    refine GL.val trivial rfl (OV.move (v := slv p_b) rfl) ?_
    refine GL.val trivial rfl (OV.move (v := slv p_tail) rfl) ?_
    refine GL.call h trivial rfl ok_law03_behind (vs := [slv p_b, slv p_tail]) rfl ?_
    rintro _ H16 ⟨r15, rfl, h⟩
    refine GL.call h trivial rfl ok_code_NewReader (vs := [slv r15]) rfl ?_
    rintro _ H18 ⟨r17, rfl, h⟩
    refine GL.val trivial rfl (OV.assign (v := pv r13) rfl) ?_
    refine GL.val trivial rfl (OV.assign (v := pv r17) rfl) ?_
    refine GL.nil ?_
    refine GC.seq ?_
    refine GC.seq ?_
    refine GC.region ?_
    refine GL.val trivial rfl (OV.assign (v := .int .i64 0) rfl) ?_
    refine GL.nil ?_
    refine GC.block ?_
    refine GC.loop (α := Int) h (fun x19 => [(9, .int .i64 x19), (1, slv p_l), (2, slv p_tail), (7, pv r13), (8, pv r17)]) ⟨rfl, rfl, rfl, rfl, rfl, trivial⟩ ?_
    intro x19 H21 J20 h
    refine GC.seq ?_
    refine GC.seq ?_
    refine GC.region ?_
    refine GL.val trivial rfl (OV.move (v := .int .i64 x19) rfl) ?_
    refine GL.val trivial rfl (OV.move (v := slv p_l) rfl) ?_
    refine GL.val trivial rfl (OV.lenSl (s := p_l) rfl rfl) ?_
    refine GL.val trivial rfl (OV.ibin (v := .bool (decide ((x19 : Int) < (Sl.len p_l : Int)))) rfl rfl rfl) ?_
    refine GL.nil ?_
    refine GC.cond (b := decide ((x19 : Int) < (Sl.len p_l : Int))) rfl (fun hc22 => ?_) (fun hc22 => ?_)
    · replace h := And.left h hc22
      refine GC.skip ?_
      refine GC.seq ?_
      refine GC.block ?_
      refine GC.seq ?_
      obtain ⟨J23, h, hR26⟩ := h
      refine GC.meet (α := (Nat × Nat) × (Nat × Nat)) J23 (fun x24 => [(10, pv (some x24.1)), (11, pv (some x24.2)), (1, slv p_l), (2, slv p_tail), (7, pv r13), (8, pv r17), (9, .int .i64 x19)]) ?_ ?_
      · skip
        obtain ⟨Hs27, hle28, h⟩ := h
        refine GC.tail (Hs := Hs27) 15 (by kernel_rfl) hle28 (by kernel_rfl) ?_
        refine GT.take 0 rfl (by kernel_rfl) (by kernel_rfl) (by kernel_rfl) rfl (fun _ _ _ h => False.elim h) trivial rfl (OV.move (v := slv p_l) rfl) ?_
        refine GT.take 1 rfl (by kernel_rfl) (by kernel_rfl) (by kernel_rfl) rfl (fun _ _ _ h => False.elim h) trivial rfl (OV.move (v := .int .i64 x19) rfl) ?_
        obtain ⟨p29, ha30, hb31, hc32, hd33, h⟩ := h
        refine GT.take 2 rfl (by kernel_rfl) (by kernel_rfl) (by kernel_rfl) rfl (fun _ _ _ h => False.elim h) trivial rfl (OV.indexAddr (s := p_l) rfl rfl rfl rfl ha30 hb31 hc32 hd33) ?_
        obtain ⟨x34, hr35, h⟩ := h
        refine GT.take 3 rfl (by kernel_rfl) (by kernel_rfl) (by kernel_rfl) rfl (fun _ _ _ h => False.elim h) trivial rfl (OV.loadT (p := (p29.1, p29.2 + (x19 : Int).toNat * 2)) (cs := T_law03_Ask.c x34) rfl rfl rfl hr35) ?_
        refine GT.take 4 rfl (by kernel_rfl) (by kernel_rfl) (by kernel_rfl) rfl (fun _ _ _ h => False.elim h) trivial rfl (OV.move (v := pv r13) rfl) ?_
        refine GT.take 6 rfl (by kernel_rfl) (by kernel_rfl) (by kernel_rfl) rfl (fun _ _ _ h => False.elim h) trivial rfl (OV.move (v := slv p_l) rfl) ?_
        refine GT.take 7 rfl (by kernel_rfl) (by kernel_rfl) (by kernel_rfl) rfl (fun _ _ _ h => False.elim h) trivial rfl (OV.move (v := .int .i64 x19) rfl) ?_
        obtain ⟨p36, ha37, hb38, hc39, hd40, h⟩ := h
        refine GT.take 8 rfl (by kernel_rfl) (by kernel_rfl) (by kernel_rfl) rfl (fun _ _ _ h => False.elim h) trivial rfl (OV.indexAddr (s := p_l) rfl rfl rfl rfl ha37 hb38 hc39 hd40) ?_
        obtain ⟨x41, hr42, h⟩ := h
        refine GT.take 9 rfl (by kernel_rfl) (by kernel_rfl) (by kernel_rfl) rfl (fun _ _ _ h => False.elim h) trivial rfl (OV.loadT (p := (p36.1, p36.2 + (x19 : Int).toNat * 2)) (cs := T_law03_Ask.c x41) rfl rfl rfl hr42) ?_
        refine GT.take 10 rfl (by kernel_rfl) (by kernel_rfl) (by kernel_rfl) rfl (fun _ _ _ h => False.elim h) trivial rfl (OV.move (v := pv r17) rfl) ?_
        refine GT.effs [5, 12, 13] (by kernel_rfl) (by simp) (List.forall_mem_cons.2 ⟨⟨_, rfl, rfl, ?_⟩, List.forall_mem_cons.2 ⟨⟨_, rfl, rfl, ?_⟩, List.forall_mem_cons.2 ⟨⟨_, rfl, rfl, ?_⟩, fun _ h => by cases h⟩⟩⟩)
        · replace h := h.1
          refine GL.call h trivial rfl ok_law03_Ask_of (vs := [.agg (T_law03_Ask.c x34).toArray, pv r13]) rfl ?_
          rintro _ H45 ⟨r44, rfl, h⟩
          obtain ⟨hle43, h⟩ := h
          refine GT.back hle43 ?_
          refine GT.effs [11, 12, 13] (by kernel_rfl) (by simp) (List.forall_mem_cons.2 ⟨⟨_, rfl, rfl, ?_⟩, List.forall_mem_cons.2 ⟨⟨_, rfl, rfl, ?_⟩, List.forall_mem_cons.2 ⟨⟨_, rfl, rfl, ?_⟩, fun _ h => by cases h⟩⟩⟩)
          · replace h := h.1
            refine GL.call h trivial rfl ok_law03_Ask_of (vs := [.agg (T_law03_Ask.c x41).toArray, pv r17]) rfl ?_
            rintro _ H48 ⟨r47, rfl, h⟩
            obtain ⟨hle46, h⟩ := h
            refine GT.back hle46 ?_
            refine GT.effs [12, 13] (by kernel_rfl) (by simp) (List.forall_mem_cons.2 ⟨⟨_, rfl, rfl, ?_⟩, List.forall_mem_cons.2 ⟨⟨_, rfl, rfl, ?_⟩, fun _ h => by cases h⟩⟩)
            · replace h := h.1
              refine GL.alloc (cs := T_law03_told.c T_law03_told.zero) h trivial rfl rfl rfl ?_
              intro b50 H51 h
              obtain ⟨hle49, h⟩ := h
              refine GT.back hle49 ?_
              refine GT.eff 13 rfl (by kernel_rfl) rfl ?_
              refine GL.alloc (cs := T_law03_told.c T_law03_told.zero) h trivial rfl rfl rfl ?_
              intro b53 H54 h
              obtain ⟨hle52, h⟩ := h
              refine GT.back hle52 ?_
              refine GT.eff 14 rfl (by kernel_rfl) rfl ?_
              refine GL.storeT (p := (b50, 0)) (vs := T_law03_told.c r44) h trivial rfl rfl rfl rfl ?_
              intro H56 h
              obtain ⟨hle55, h⟩ := h
              refine GT.back hle55 ?_
              refine GT.done (by kernel_rfl) ?_
              show GL _ _ _ _ _ [_] _ _
              refine GL.storeT (p := (b53, 0)) (vs := T_law03_told.c r47) h trivial rfl rfl rfl rfl ?_
              intro H57 h
              exact GL.jump (fun _ _ h => h) ((b50, 0), (b53, 0)) h ⟨rfl, rfl, rfl, rfl, rfl, rfl, rfl, trivial⟩
            · replace h := h.2
              refine GL.alloc (cs := T_law03_told.c T_law03_told.zero) h trivial rfl rfl rfl ?_
              intro b59 H60 h
              obtain ⟨hle58, h⟩ := h
              refine GT.back hle58 ?_
              refine GT.eff 12 rfl (by kernel_rfl) rfl ?_
              refine GL.alloc (cs := T_law03_told.c T_law03_told.zero) h trivial rfl rfl rfl ?_
              intro b62 H63 h
              obtain ⟨hle61, h⟩ := h
              refine GT.back hle61 ?_
              refine GT.eff 14 rfl (by kernel_rfl) rfl ?_
              refine GL.storeT (p := (b62, 0)) (vs := T_law03_told.c r44) h trivial rfl rfl rfl rfl ?_
              intro H65 h
              obtain ⟨hle64, h⟩ := h
              refine GT.back hle64 ?_
              refine GT.done (by kernel_rfl) ?_
              show GL _ _ _ _ _ [_] _ _
              refine GL.storeT (p := (b59, 0)) (vs := T_law03_told.c r47) h trivial rfl rfl rfl rfl ?_
              intro H66 h
              exact GL.jump (fun _ _ h => h) ((b62, 0), (b59, 0)) h ⟨rfl, rfl, rfl, rfl, rfl, rfl, rfl, trivial⟩
          · replace h := h.2.1
            refine GL.alloc (cs := T_law03_told.c T_law03_told.zero) h trivial rfl rfl rfl ?_
            intro b68 H69 h
            obtain ⟨hle67, h⟩ := h
            refine GT.back hle67 ?_
            refine GT.effs [11, 13] (by kernel_rfl) (by simp) (List.forall_mem_cons.2 ⟨⟨_, rfl, rfl, ?_⟩, List.forall_mem_cons.2 ⟨⟨_, rfl, rfl, ?_⟩, fun _ h => by cases h⟩⟩)
            · replace h := h.1
              refine GL.call h trivial rfl ok_law03_Ask_of (vs := [.agg (T_law03_Ask.c x41).toArray, pv r17]) rfl ?_
              rintro _ H72 ⟨r71, rfl, h⟩
              obtain ⟨hle70, h⟩ := h
              refine GT.back hle70 ?_
              refine GT.eff 13 rfl (by kernel_rfl) rfl ?_
              refine GL.alloc (cs := T_law03_told.c T_law03_told.zero) h trivial rfl rfl rfl ?_
              intro b74 H75 h
              obtain ⟨hle73, h⟩ := h
              refine GT.back hle73 ?_
              refine GT.eff 14 rfl (by kernel_rfl) rfl ?_
              refine GL.storeT (p := (b68, 0)) (vs := T_law03_told.c r44) h trivial rfl rfl rfl rfl ?_
              intro H77 h
              obtain ⟨hle76, h⟩ := h
              refine GT.back hle76 ?_
              refine GT.done (by kernel_rfl) ?_
              show GL _ _ _ _ _ [_] _ _
              refine GL.storeT (p := (b74, 0)) (vs := T_law03_told.c r71) h trivial rfl rfl rfl rfl ?_
              intro H78 h
              exact GL.jump (fun _ _ h => h) ((b68, 0), (b74, 0)) h ⟨rfl, rfl, rfl, rfl, rfl, rfl, rfl, trivial⟩
            · replace h := h.2
              refine GL.alloc (cs := T_law03_told.c T_law03_told.zero) h trivial rfl rfl rfl ?_
              intro b80 H81 h
              obtain ⟨hle79, h⟩ := h
              refine GT.back hle79 ?_
              refine GT.eff 11 rfl (by kernel_rfl) rfl ?_
              refine GL.call h trivial rfl ok_law03_Ask_of (vs := [.agg (T_law03_Ask.c x41).toArray, pv r17]) rfl ?_
              rintro _ H84 ⟨r83, rfl, h⟩
              obtain ⟨hle82, h⟩ := h
              refine GT.back hle82 ?_
              refine GT.eff 14 rfl (by kernel_rfl) rfl ?_
              refine GL.storeT (p := (b68, 0)) (vs := T_law03_told.c r44) h trivial rfl rfl rfl rfl ?_
              intro H86 h
              obtain ⟨hle85, h⟩ := h
              refine GT.back hle85 ?_
              refine GT.done (by kernel_rfl) ?_
              show GL _ _ _ _ _ [_] _ _
              refine GL.storeT (p := (b80, 0)) (vs := T_law03_told.c r83) h trivial rfl rfl rfl rfl ?_
              intro H87 h
              exact GL.jump (fun _ _ h => h) ((b68, 0), (b80, 0)) h ⟨rfl, rfl, rfl, rfl, rfl, rfl, rfl, trivial⟩
          · replace h := h.2.2
            refine GL.alloc (cs := T_law03_told.c T_law03_told.zero) h trivial rfl rfl rfl ?_
            intro b89 H90 h
            obtain ⟨hle88, h⟩ := h
            refine GT.back hle88 ?_
            refine GT.effs [11, 12] (by kernel_rfl) (by simp) (List.forall_mem_cons.2 ⟨⟨_, rfl, rfl, ?_⟩, List.forall_mem_cons.2 ⟨⟨_, rfl, rfl, ?_⟩, fun _ h => by cases h⟩⟩)
            · replace h := h.1
              refine GL.call h trivial rfl ok_law03_Ask_of (vs := [.agg (T_law03_Ask.c x41).toArray, pv r17]) rfl ?_
              rintro _ H93 ⟨r92, rfl, h⟩
              obtain ⟨hle91, h⟩ := h
              refine GT.back hle91 ?_
              refine GT.eff 12 rfl (by kernel_rfl) rfl ?_
              refine GL.alloc (cs := T_law03_told.c T_law03_told.zero) h trivial rfl rfl rfl ?_
              intro b95 H96 h
              obtain ⟨hle94, h⟩ := h
              refine GT.back hle94 ?_
              refine GT.eff 14 rfl (by kernel_rfl) rfl ?_
              refine GL.storeT (p := (b95, 0)) (vs := T_law03_told.c r44) h trivial rfl rfl rfl rfl ?_
              intro H98 h
              obtain ⟨hle97, h⟩ := h
              refine GT.back hle97 ?_
              refine GT.done (by kernel_rfl) ?_
              show GL _ _ _ _ _ [_] _ _
              refine GL.storeT (p := (b89, 0)) (vs := T_law03_told.c r92) h trivial rfl rfl rfl rfl ?_
              intro H99 h
              exact GL.jump (fun _ _ h => h) ((b95, 0), (b89, 0)) h ⟨rfl, rfl, rfl, rfl, rfl, rfl, rfl, trivial⟩
            · replace h := h.2
              refine GL.alloc (cs := T_law03_told.c T_law03_told.zero) h trivial rfl rfl rfl ?_
              intro b101 H102 h
              obtain ⟨hle100, h⟩ := h
              refine GT.back hle100 ?_
              refine GT.eff 11 rfl (by kernel_rfl) rfl ?_
              refine GL.call h trivial rfl ok_law03_Ask_of (vs := [.agg (T_law03_Ask.c x41).toArray, pv r17]) rfl ?_
              rintro _ H105 ⟨r104, rfl, h⟩
              obtain ⟨hle103, h⟩ := h
              refine GT.back hle103 ?_
              refine GT.eff 14 rfl (by kernel_rfl) rfl ?_
              refine GL.storeT (p := (b101, 0)) (vs := T_law03_told.c r44) h trivial rfl rfl rfl rfl ?_
              intro H107 h
              obtain ⟨hle106, h⟩ := h
              refine GT.back hle106 ?_
              refine GT.done (by kernel_rfl) ?_
              show GL _ _ _ _ _ [_] _ _
              refine GL.storeT (p := (b89, 0)) (vs := T_law03_told.c r104) h trivial rfl rfl rfl rfl ?_
              intro H108 h
              exact GL.jump (fun _ _ h => h) ((b101, 0), (b89, 0)) h ⟨rfl, rfl, rfl, rfl, rfl, rfl, rfl, trivial⟩
        · replace h := h.2.1
          refine GL.alloc (cs := T_law03_told.c T_law03_told.zero) h trivial rfl rfl rfl ?_
          intro b110 H111 h
          obtain ⟨hle109, h⟩ := h
          refine GT.back hle109 ?_
          refine GT.effs [5, 13] (by kernel_rfl) (by simp) (List.forall_mem_cons.2 ⟨⟨_, rfl, rfl, ?_⟩, List.forall_mem_cons.2 ⟨⟨_, rfl, rfl, ?_⟩, fun _ h => by cases h⟩⟩)
          · replace h := h.1
            refine GL.call h trivial rfl ok_law03_Ask_of (vs := [.agg (T_law03_Ask.c x34).toArray, pv r13]) rfl ?_
            rintro _ H114 ⟨r113, rfl, h⟩
            obtain ⟨hle112, h⟩ := h
            refine GT.back hle112 ?_
            refine GT.effs [11, 13] (by kernel_rfl) (by simp) (List.forall_mem_cons.2 ⟨⟨_, rfl, rfl, ?_⟩, List.forall_mem_cons.2 ⟨⟨_, rfl, rfl, ?_⟩, fun _ h => by cases h⟩⟩)
            · replace h := h.1
              refine GL.call h trivial rfl ok_law03_Ask_of (vs := [.agg (T_law03_Ask.c x41).toArray, pv r17]) rfl ?_
              rintro _ H117 ⟨r116, rfl, h⟩
              obtain ⟨hle115, h⟩ := h
              refine GT.back hle115 ?_
              refine GT.eff 13 rfl (by kernel_rfl) rfl ?_
              refine GL.alloc (cs := T_law03_told.c T_law03_told.zero) h trivial rfl rfl rfl ?_
              intro b119 H120 h
              obtain ⟨hle118, h⟩ := h
              refine GT.back hle118 ?_
              refine GT.eff 14 rfl (by kernel_rfl) rfl ?_
              refine GL.storeT (p := (b110, 0)) (vs := T_law03_told.c r113) h trivial rfl rfl rfl rfl ?_
              intro H122 h
              obtain ⟨hle121, h⟩ := h
              refine GT.back hle121 ?_
              refine GT.done (by kernel_rfl) ?_
              show GL _ _ _ _ _ [_] _ _
              refine GL.storeT (p := (b119, 0)) (vs := T_law03_told.c r116) h trivial rfl rfl rfl rfl ?_
              intro H123 h
              exact GL.jump (fun _ _ h => h) ((b110, 0), (b119, 0)) h ⟨rfl, rfl, rfl, rfl, rfl, rfl, rfl, trivial⟩
            · replace h := h.2
              refine GL.alloc (cs := T_law03_told.c T_law03_told.zero) h trivial rfl rfl rfl ?_
              intro b125 H126 h
              obtain ⟨hle124, h⟩ := h
              refine GT.back hle124 ?_
              refine GT.eff 11 rfl (by kernel_rfl) rfl ?_
              refine GL.call h trivial rfl ok_law03_Ask_of (vs := [.agg (T_law03_Ask.c x41).toArray, pv r17]) rfl ?_
              rintro _ H129 ⟨r128, rfl, h⟩
              obtain ⟨hle127, h⟩ := h
              refine GT.back hle127 ?_
              refine GT.eff 14 rfl (by kernel_rfl) rfl ?_
              refine GL.storeT (p := (b110, 0)) (vs := T_law03_told.c r113) h trivial rfl rfl rfl rfl ?_
              intro H131 h
              obtain ⟨hle130, h⟩ := h
              refine GT.back hle130 ?_
              refine GT.done (by kernel_rfl) ?_
              show GL _ _ _ _ _ [_] _ _
              refine GL.storeT (p := (b125, 0)) (vs := T_law03_told.c r128) h trivial rfl rfl rfl rfl ?_
              intro H132 h
              exact GL.jump (fun _ _ h => h) ((b110, 0), (b125, 0)) h ⟨rfl, rfl, rfl, rfl, rfl, rfl, rfl, trivial⟩
          · replace h := h.2
            refine GL.alloc (cs := T_law03_told.c T_law03_told.zero) h trivial rfl rfl rfl ?_
            intro b134 H135 h
            obtain ⟨hle133, h⟩ := h
            refine GT.back hle133 ?_
            refine GT.eff 5 rfl (by kernel_rfl) rfl ?_
            refine GL.call h trivial rfl ok_law03_Ask_of (vs := [.agg (T_law03_Ask.c x34).toArray, pv r13]) rfl ?_
            rintro _ H138 ⟨r137, rfl, h⟩
            obtain ⟨hle136, h⟩ := h
            refine GT.back hle136 ?_
            refine GT.eff 11 rfl (by kernel_rfl) rfl ?_
            refine GL.call h trivial rfl ok_law03_Ask_of (vs := [.agg (T_law03_Ask.c x41).toArray, pv r17]) rfl ?_
            rintro _ H141 ⟨r140, rfl, h⟩
            obtain ⟨hle139, h⟩ := h
            refine GT.back hle139 ?_
            refine GT.eff 14 rfl (by kernel_rfl) rfl ?_
            refine GL.storeT (p := (b110, 0)) (vs := T_law03_told.c r137) h trivial rfl rfl rfl rfl ?_
            intro H143 h
            obtain ⟨hle142, h⟩ := h
            refine GT.back hle142 ?_
            refine GT.done (by kernel_rfl) ?_
            show GL _ _ _ _ _ [_] _ _
            refine GL.storeT (p := (b134, 0)) (vs := T_law03_told.c r140) h trivial rfl rfl rfl rfl ?_
            intro H144 h
            exact GL.jump (fun _ _ h => h) ((b110, 0), (b134, 0)) h ⟨rfl, rfl, rfl, rfl, rfl, rfl, rfl, trivial⟩
        · replace h := h.2.2
          refine GL.alloc (cs := T_law03_told.c T_law03_told.zero) h trivial rfl rfl rfl ?_
          intro b146 H147 h
          obtain ⟨hle145, h⟩ := h
          refine GT.back hle145 ?_
          refine GT.effs [5, 12] (by kernel_rfl) (by simp) (List.forall_mem_cons.2 ⟨⟨_, rfl, rfl, ?_⟩, List.forall_mem_cons.2 ⟨⟨_, rfl, rfl, ?_⟩, fun _ h => by cases h⟩⟩)
          · replace h := h.1
            refine GL.call h trivial rfl ok_law03_Ask_of (vs := [.agg (T_law03_Ask.c x34).toArray, pv r13]) rfl ?_
            rintro _ H150 ⟨r149, rfl, h⟩
            obtain ⟨hle148, h⟩ := h
            refine GT.back hle148 ?_
            refine GT.effs [11, 12] (by kernel_rfl) (by simp) (List.forall_mem_cons.2 ⟨⟨_, rfl, rfl, ?_⟩, List.forall_mem_cons.2 ⟨⟨_, rfl, rfl, ?_⟩, fun _ h => by cases h⟩⟩)
            · replace h := h.1
              refine GL.call h trivial rfl ok_law03_Ask_of (vs := [.agg (T_law03_Ask.c x41).toArray, pv r17]) rfl ?_
              rintro _ H153 ⟨r152, rfl, h⟩
              obtain ⟨hle151, h⟩ := h
              refine GT.back hle151 ?_
              refine GT.eff 12 rfl (by kernel_rfl) rfl ?_
              refine GL.alloc (cs := T_law03_told.c T_law03_told.zero) h trivial rfl rfl rfl ?_
              intro b155 H156 h
              obtain ⟨hle154, h⟩ := h
              refine GT.back hle154 ?_
              refine GT.eff 14 rfl (by kernel_rfl) rfl ?_
              refine GL.storeT (p := (b155, 0)) (vs := T_law03_told.c r149) h trivial rfl rfl rfl rfl ?_
              intro H158 h
              obtain ⟨hle157, h⟩ := h
              refine GT.back hle157 ?_
              refine GT.done (by kernel_rfl) ?_
              show GL _ _ _ _ _ [_] _ _
              refine GL.storeT (p := (b146, 0)) (vs := T_law03_told.c r152) h trivial rfl rfl rfl rfl ?_
              intro H159 h
              exact GL.jump (fun _ _ h => h) ((b155, 0), (b146, 0)) h ⟨rfl, rfl, rfl, rfl, rfl, rfl, rfl, trivial⟩
            · replace h := h.2
              refine GL.alloc (cs := T_law03_told.c T_law03_told.zero) h trivial rfl rfl rfl ?_
              intro b161 H162 h
              obtain ⟨hle160, h⟩ := h
              refine GT.back hle160 ?_
              refine GT.eff 11 rfl (by kernel_rfl) rfl ?_
              refine GL.call h trivial rfl ok_law03_Ask_of (vs := [.agg (T_law03_Ask.c x41).toArray, pv r17]) rfl ?_
              rintro _ H165 ⟨r164, rfl, h⟩
              obtain ⟨hle163, h⟩ := h
              refine GT.back hle163 ?_
              refine GT.eff 14 rfl (by kernel_rfl) rfl ?_
              refine GL.storeT (p := (b161, 0)) (vs := T_law03_told.c r149) h trivial rfl rfl rfl rfl ?_
              intro H167 h
              obtain ⟨hle166, h⟩ := h
              refine GT.back hle166 ?_
              refine GT.done (by kernel_rfl) ?_
              show GL _ _ _ _ _ [_] _ _
              refine GL.storeT (p := (b146, 0)) (vs := T_law03_told.c r164) h trivial rfl rfl rfl rfl ?_
              intro H168 h
              exact GL.jump (fun _ _ h => h) ((b161, 0), (b146, 0)) h ⟨rfl, rfl, rfl, rfl, rfl, rfl, rfl, trivial⟩
          · replace h := h.2
            refine GL.alloc (cs := T_law03_told.c T_law03_told.zero) h trivial rfl rfl rfl ?_
            intro b170 H171 h
            obtain ⟨hle169, h⟩ := h
            refine GT.back hle169 ?_
            refine GT.eff 5 rfl (by kernel_rfl) rfl ?_
            refine GL.call h trivial rfl ok_law03_Ask_of (vs := [.agg (T_law03_Ask.c x34).toArray, pv r13]) rfl ?_
            rintro _ H174 ⟨r173, rfl, h⟩
            obtain ⟨hle172, h⟩ := h
            refine GT.back hle172 ?_
            refine GT.eff 11 rfl (by kernel_rfl) rfl ?_
            refine GL.call h trivial rfl ok_law03_Ask_of (vs := [.agg (T_law03_Ask.c x41).toArray, pv r17]) rfl ?_
            rintro _ H177 ⟨r176, rfl, h⟩
            obtain ⟨hle175, h⟩ := h
            refine GT.back hle175 ?_
            refine GT.eff 14 rfl (by kernel_rfl) rfl ?_
            refine GL.storeT (p := (b170, 0)) (vs := T_law03_told.c r173) h trivial rfl rfl rfl rfl ?_
            intro H179 h
            obtain ⟨hle178, h⟩ := h
            refine GT.back hle178 ?_
            refine GT.done (by kernel_rfl) ?_
            show GL _ _ _ _ _ [_] _ _
            refine GL.storeT (p := (b146, 0)) (vs := T_law03_told.c r176) h trivial rfl rfl rfl rfl ?_
            intro H180 h
            exact GL.jump (fun _ _ h => h) ((b170, 0), (b146, 0)) h ⟨rfl, rfl, rfl, rfl, rfl, rfl, rfl, trivial⟩
      · intro x24 H25 h
        replace h := hR26 x24 H25 h
        refine GL.nil ?_
        refine GC.seq ?_
        refine GC.seq ?_
        refine GC.region ?_
        refine GL.val trivial rfl (OV.fieldAddr (p := x24.1) rfl rfl) ?_
        obtain ⟨x181, hr182, h⟩ := h
        refine GL.val trivial rfl (OV.load (p := (x24.1.1, x24.1.2 + 6)) rfl rfl hr182) ?_
        refine GL.val trivial rfl (OV.not rfl) ?_
        refine GL.nil ?_
        refine GC.cond (b := !x181) rfl (fun hc183 => ?_) (fun hc183 => ?_)
        · replace h := And.left h hc183
          refine GC.seq ?_
          refine GC.region ?_
          refine GL.val trivial rfl (OV.fieldAddr (p := x24.2) rfl rfl) ?_
          obtain ⟨x184, hr185, h⟩ := h
          refine GL.val trivial rfl (OV.load (p := (x24.2.1, x24.2.2 + 6)) rfl rfl hr185) ?_
          refine GL.val trivial rfl (OV.not rfl) ?_
          refine GL.val trivial rfl (OV.move (v := .bool (!x184)) rfl) ?_
          obtain ⟨J187, h, hR188⟩ := h
          refine GL.cut (α := Bool) 6 J187 (fun b186 => [(66, .bool b186)]) ?_ ?_
          · rcases Bool.eq_false_or_eq_true (!x184) with hc189 | hc189
            · skip
              replace h := And.left h hc189
              refine GL.skip ⟨_, rfl, .inl ⟨_, rfl, hc189⟩⟩ rfl ?_
              refine GL.skip ⟨_, rfl, .inl ⟨_, rfl, hc189⟩⟩ rfl ?_
              refine GL.skip ⟨_, rfl, .inl ⟨_, rfl, hc189⟩⟩ rfl ?_
              refine GL.skip ⟨_, rfl, .inl ⟨_, rfl, hc189⟩⟩ rfl ?_
              refine GL.skip ⟨_, rfl, .inl ⟨_, rfl, hc189⟩⟩ rfl ?_
              refine GL.val trivial rfl (OV.pickT (b := !x184) (v := .bool true) rfl hc189 rfl) ?_
              exact GL.jump (fun _ _ h => h) true h ⟨rfl, trivial⟩
            · skip
              replace h := And.right h hc189
              refine GL.val ⟨_, _, rfl, rfl, hc189⟩ rfl (OV.move (v := pv r17) rfl) ?_
              refine GL.call h ⟨_, _, rfl, rfl, hc189⟩ rfl ok_code_Reader_Left (vs := [pv r17]) rfl ?_
              rintro _ H191 ⟨r190, rfl, h⟩
              refine GL.val ⟨_, _, rfl, rfl, hc189⟩ rfl (OV.move (v := slv p_tail) rfl) ?_
              refine GL.val ⟨_, _, rfl, rfl, hc189⟩ rfl (OV.lenSl (s := p_tail) rfl rfl) ?_
              refine GL.val ⟨_, _, rfl, rfl, hc189⟩ rfl (OV.ibin (v := .bool (decide ((r190 : Int) < (Sl.len p_tail : Int)))) rfl rfl rfl) ?_
              refine GL.val trivial rfl (OV.pickF (b := !x184) (v := .bool (decide ((r190 : Int) < (Sl.len p_tail : Int)))) rfl hc189 rfl) ?_
              exact GL.jump (fun _ _ h => h) (decide ((r190 : Int) < (Sl.len p_tail : Int))) h ⟨rfl, trivial⟩
          intro b186 H192 h
          replace h := hR188 b186 H192 h
          refine GL.val trivial rfl (OV.assign (v := .bool b186) rfl) ?_
          refine GL.nil ?_
          exact GC.ret (fun _ _ hf hs => post_tmp1 rfl rfl hf hs ⟨b186, rfl, h⟩)
        · replace h := And.right h hc183
          refine GC.skip ?_
          refine GC.seq ?_
          refine GC.region ?_
          obtain ⟨x193, hr194, h⟩ := h
          refine GL.val trivial rfl (OV.loadT (p := x24.1) (cs := T_law03_told.c x193) rfl rfl rfl hr194) ?_
          obtain ⟨x195, hr196, h⟩ := h
          refine GL.val trivial rfl (OV.loadT (p := x24.2) (cs := T_law03_told.c x195) rfl rfl rfl hr196) ?_
          refine GL.call h trivial rfl ok_law03_told_same (vs := [.agg (T_law03_told.c x193).toArray, .agg (T_law03_told.c x195).toArray]) rfl ?_
          rintro _ H198 ⟨r197, rfl, h⟩
          refine GL.val trivial rfl (OV.not rfl) ?_
          refine GL.val trivial rfl (OV.move (v := .bool (!r197)) rfl) ?_
          obtain ⟨J200, h, hR201⟩ := h
          refine GL.cut (α := Bool) 9 J200 (fun b199 => [(80, .bool b199), (1, slv p_l), (2, slv p_tail), (7, pv r13), (8, pv r17), (9, .int .i64 x19)]) ?_ ?_
          · rcases Bool.eq_false_or_eq_true (!r197) with hc202 | hc202
            · skip
              replace h := And.left h hc202
              refine GL.skip ⟨_, rfl, .inl ⟨_, rfl, hc202⟩⟩ rfl ?_
              refine GL.skip ⟨_, rfl, .inl ⟨_, rfl, hc202⟩⟩ rfl ?_
              refine GL.skip ⟨_, rfl, .inl ⟨_, rfl, hc202⟩⟩ rfl ?_
              refine GL.skip ⟨_, rfl, .inl ⟨_, rfl, hc202⟩⟩ rfl ?_
              refine GL.skip ⟨_, rfl, .inl ⟨_, rfl, hc202⟩⟩ rfl ?_
              refine GL.skip ⟨_, rfl, .inl ⟨_, rfl, hc202⟩⟩ rfl ?_
              refine GL.skip ⟨_, rfl, .inl ⟨_, rfl, hc202⟩⟩ rfl ?_
              refine GL.skip ⟨_, rfl, .inl ⟨_, rfl, hc202⟩⟩ rfl ?_
              refine GL.val trivial rfl (OV.pickT (b := !r197) (v := .bool true) rfl hc202 rfl) ?_
              exact GL.jump (fun _ _ h => h) true h ⟨rfl, rfl, rfl, rfl, rfl, rfl, trivial⟩
            · skip
              replace h := And.right h hc202
              refine GL.val ⟨_, _, rfl, rfl, hc202⟩ rfl (OV.move (v := pv r17) rfl) ?_
              refine GL.call h ⟨_, _, rfl, rfl, hc202⟩ rfl ok_code_Reader_Left (vs := [pv r17]) rfl ?_
              rintro _ H204 ⟨r203, rfl, h⟩
              refine GL.val ⟨_, _, rfl, rfl, hc202⟩ rfl (OV.move (v := pv r13) rfl) ?_
              refine GL.call h ⟨_, _, rfl, rfl, hc202⟩ rfl ok_code_Reader_Left (vs := [pv r13]) rfl ?_
              rintro _ H206 ⟨r205, rfl, h⟩
              refine GL.val ⟨_, _, rfl, rfl, hc202⟩ rfl (OV.move (v := slv p_tail) rfl) ?_
              refine GL.val ⟨_, _, rfl, rfl, hc202⟩ rfl (OV.lenSl (s := p_tail) rfl rfl) ?_
              refine GL.val ⟨_, _, rfl, rfl, hc202⟩ rfl (OV.ibin (v := .int .i64 (w .i64 (r205 + (Sl.len p_tail : Int)))) rfl rfl rfl) ?_
              refine GL.val ⟨_, _, rfl, rfl, hc202⟩ rfl (OV.ibin (v := .bool ((r203 : Int) != (w .i64 (r205 + (Sl.len p_tail : Int))))) rfl rfl rfl) ?_
              refine GL.val trivial rfl (OV.pickF (b := !r197) (v := .bool ((r203 : Int) != (w .i64 (r205 + (Sl.len p_tail : Int))))) rfl hc202 rfl) ?_
              exact GL.jump (fun _ _ h => h) ((r203 : Int) != (w .i64 (r205 + (Sl.len p_tail : Int)))) h ⟨rfl, rfl, rfl, rfl, rfl, rfl, trivial⟩
          intro b199 H207 h
          replace h := hR201 b199 H207 h
          refine GL.nil ?_
          refine GC.cond (b := b199) rfl (fun hc208 => ?_) (fun hc208 => ?_)
          · replace h := And.left h hc208
            refine GC.seq ?_
            refine GC.region ?_
            refine GL.val trivial rfl (OV.assign (v := .bool false) rfl) ?_
            refine GL.nil ?_
            exact GC.ret (fun _ _ hf hs => post_tmp1 rfl rfl hf hs ⟨false, rfl, h⟩)
          · replace h := And.right h hc208
            refine GC.skip_to (fun _ _ h => h) ?_
            refine GC.region ?_
            refine GL.val trivial rfl (OV.move (v := .int .i64 x19) rfl) ?_
            refine GL.val trivial rfl (OV.ibin (v := .int .i64 (w .i64 (x19 + 1))) rfl rfl rfl) ?_
            refine GL.val trivial rfl (OV.assign (v := .int .i64 (w .i64 (x19 + 1))) rfl) ?_
            exact GL.jump (fun _ _ h => h) (w .i64 (x19 + 1)) h ⟨rfl, rfl, rfl, rfl, rfl, trivial⟩
    · replace h := And.right h hc22
      refine GC.exit_to (fun _ _ h => h) ?_
      refine GC.seq ?_
      refine GC.region ?_
      refine GL.val trivial rfl (OV.assign (v := .bool true) rfl) ?_
      refine GL.nil ?_
      exact GC.ret (fun _ _ hf hs => post_tmp1 rfl rfl hf hs ⟨true, rfl, h⟩)

end Sx
set_option linter.unusedVariables false
set_option maxRecDepth 100000
namespace Sx
open Go Go.Proofs
def sh_law03_works (C : Ctx) (K : Bool → Heap → Prop) (H : Heap) : Prop :=
  c_code_Count C Sl.nil 300 (fun r1 H2 =>
 c_code_Num C r1 (-1) (fun r3 H4 =>
 c_code_Str C r3 [97, 0] (fun r5 H6 =>
 c_code_Flag C r5 true (fun r7 H8 =>
 c_code_NewReader C r7 (fun r9 H10 =>
 b2s r7 (fun t11 =>
 jn (α := Bool) (fun b14 H20 =>
 jn (α := Bool) (fun b21 H27 =>
 jn (α := Bool) (fun b28 H34 =>
 jn (α := Bool) (fun b35 H41 =>
 jn (α := Bool) (fun b42 H48 =>
 jn (α := Bool) (fun b49 H55 =>
 K b49 H55)
 (fun J50 => ift b42
 (c_code_Reader_Done C r9 (fun r53 H54 =>
 J50 r53 H54) H48)
 (J50 false H48)))
 (fun J43 => ift b35
 (c_code_Reader_Flag C r9 (fun r46 H47 =>
 J43 r46 H47) H41)
 (J43 false H41)))
 (fun J36 => ift b28
 (c_code_Reader_Done C r9 (fun r39 H40 =>
 J36 (!r39) H40) H34)
 (J36 false H34)))
 (fun J29 => ift b21
 (c_code_Reader_Str C r9 2 (fun r32 H33 =>
 J29 (r32 == ([97, 0] : Str)) H33) H27)
 (J29 false H27)))
 (fun J22 => ift b14
 (c_code_Reader_Num C r9 (fun r25 H26 =>
 J22 ((r25 : Int) == (-1)) H26) H20)
 (J22 false H20)))
 (fun J15 => ift (t11 == ([2, 1, 44, 127, 97, 0, 255, 0, 0, 1] : Str))
 (c_code_Reader_Count C r9 300 (fun r18 H19 =>
 J15 ((r18 : Int) == 300) H19) H10)
 (J15 false H10))) H10) H8) H6) H4) H2) H

theorem ad_law03_works (C : Ctx) (K : Bool → Heap → Prop) (H : Heap) (h : sh_law03_works C  K H) : c_law03_works C  K H := by
  refine Spec.enter Tryd.func11 rfl Tryd.ntmps11 rfl ?_
  refine GC.sub [] trivial ?_
  refine GC.seq ?_
  refine GC.region ?_
  refine GL.val trivial rfl (OV.assign (v := .bool false) rfl) ?_
  refine GL.nil ?_
  refine GC.seq ?_
  refine GC.region ?_
  refine GL.call h trivial rfl ok_code_Count (vs := [slv Sl.nil, .int .i64 300]) rfl ?_
  rintro _ H2 ⟨r1, rfl, h⟩
  refine GL.call h trivial rfl ok_code_Num (vs := [slv r1, .int .i64 (-1)]) rfl ?_
  rintro _ H4 ⟨r3, rfl, h⟩
  refine GL.call h trivial rfl ok_code_Str (vs := [slv r3, sv [97, 0]]) rfl ?_
  rintro _ H6 ⟨r5, rfl, h⟩
  refine GL.call h trivial rfl ok_code_Flag (vs := [slv r5, .bool true]) rfl ?_
  rintro _ H8 ⟨r7, rfl, h⟩
  refine GL.val trivial rfl (OV.assign (v := slv r7) rfl) ?_
  refine GL.nil ?_
  refine GC.seq ?_
  refine GC.region ?_
  refine GL.val trivial rfl (OV.move (v := slv r7) rfl) ?_
  refine GL.call h trivial rfl ok_code_NewReader (vs := [slv r7]) rfl ?_
  rintro _ H10 ⟨r9, rfl, h⟩
  refine GL.val trivial rfl (OV.assign (v := pv r9) rfl) ?_
  refine GL.nil ?_
  refine GC.seq ?_
  refine GC.region ?_
  refine GL.val trivial rfl (OV.move (v := slv r7) rfl) ?_
  obtain ⟨t11, h12, h13, h⟩ := h
  refine GL.val trivial rfl (OV.b2s (b := r7) (s := t11) h12 h13 rfl rfl rfl rfl) ?_
  refine GL.val trivial rfl (OV.sbin (a := t11) (b := ([2, 1, 44, 127, 97, 0, 255, 0, 0, 1] : Str)) (v := .bool (t11 == ([2, 1, 44, 127, 97, 0, 255, 0, 0, 1] : Str))) rfl rfl rfl) ?_
  refine GL.val trivial rfl (OV.move (v := .bool (t11 == ([2, 1, 44, 127, 97, 0, 255, 0, 0, 1] : Str))) rfl) ?_
  obtain ⟨J15, h, hR16⟩ := h
  refine GL.cut (α := Bool) 4 J15 (fun b14 => [(16, .bool b14), (2, pv r9)]) ?_ ?_
  · rcases Bool.eq_false_or_eq_true (t11 == ([2, 1, 44, 127, 97, 0, 255, 0, 0, 1] : Str)) with hc17 | hc17
    · skip
      replace h := And.left h hc17
      refine GL.val ⟨_, _, rfl, rfl, hc17⟩ rfl (OV.move (v := pv r9) rfl) ?_
      refine GL.call h ⟨_, _, rfl, rfl, hc17⟩ rfl ok_code_Reader_Count (vs := [pv r9, .int .i64 300]) rfl ?_
      rintro _ H19 ⟨r18, rfl, h⟩
      refine GL.val ⟨_, _, rfl, rfl, hc17⟩ rfl (OV.ibin (v := .bool ((r18 : Int) == 300)) rfl rfl rfl) ?_
      refine GL.val trivial rfl (OV.pickT (b := t11 == ([2, 1, 44, 127, 97, 0, 255, 0, 0, 1] : Str)) (v := .bool ((r18 : Int) == 300)) rfl hc17 rfl) ?_
      exact GL.jump (fun _ _ h => h) ((r18 : Int) == 300) h ⟨rfl, rfl, trivial⟩
    · skip
      replace h := And.right h hc17
      refine GL.skip ⟨_, rfl, .inl ⟨_, rfl, hc17⟩⟩ rfl ?_
      refine GL.skip ⟨_, rfl, .inl ⟨_, rfl, hc17⟩⟩ rfl ?_
      refine GL.skip ⟨_, rfl, .inl ⟨_, rfl, hc17⟩⟩ rfl ?_
      refine GL.val trivial rfl (OV.pickF (b := t11 == ([2, 1, 44, 127, 97, 0, 255, 0, 0, 1] : Str)) (v := .bool false) rfl hc17 rfl) ?_
      exact GL.jump (fun _ _ h => h) false h ⟨rfl, rfl, trivial⟩
  intro b14 H20 h
  replace h := hR16 b14 H20 h
  refine GL.val trivial rfl (OV.move (v := .bool b14) rfl) ?_
  obtain ⟨J22, h, hR23⟩ := h
  refine GL.cut (α := Bool) 4 J22 (fun b21 => [(21, .bool b21), (2, pv r9)]) ?_ ?_
  · rcases Bool.eq_false_or_eq_true b14 with hc24 | hc24
    · skip
      replace h := And.left h hc24
      refine GL.val ⟨_, _, rfl, rfl, hc24⟩ rfl (OV.move (v := pv r9) rfl) ?_
      refine GL.call h ⟨_, _, rfl, rfl, hc24⟩ rfl ok_code_Reader_Num (vs := [pv r9]) rfl ?_
      rintro _ H26 ⟨r25, rfl, h⟩
      refine GL.val ⟨_, _, rfl, rfl, hc24⟩ rfl (OV.ibin (v := .bool ((r25 : Int) == (-1))) rfl rfl rfl) ?_
      refine GL.val trivial rfl (OV.pickT (b := b14) (v := .bool ((r25 : Int) == (-1))) rfl hc24 rfl) ?_
      exact GL.jump (fun _ _ h => h) ((r25 : Int) == (-1)) h ⟨rfl, rfl, trivial⟩
    · skip
      replace h := And.right h hc24
      refine GL.skip ⟨_, rfl, .inl ⟨_, rfl, hc24⟩⟩ rfl ?_
      refine GL.skip ⟨_, rfl, .inl ⟨_, rfl, hc24⟩⟩ rfl ?_
      refine GL.skip ⟨_, rfl, .inl ⟨_, rfl, hc24⟩⟩ rfl ?_
      refine GL.val trivial rfl (OV.pickF (b := b14) (v := .bool false) rfl hc24 rfl) ?_
      exact GL.jump (fun _ _ h => h) false h ⟨rfl, rfl, trivial⟩
  intro b21 H27 h
  replace h := hR23 b21 H27 h
  refine GL.val trivial rfl (OV.move (v := .bool b21) rfl) ?_
  obtain ⟨J29, h, hR30⟩ := h
  refine GL.cut (α := Bool) 4 J29 (fun b28 => [(26, .bool b28), (2, pv r9)]) ?_ ?_
  · rcases Bool.eq_false_or_eq_true b21 with hc31 | hc31
    · skip
      replace h := And.left h hc31
      refine GL.val ⟨_, _, rfl, rfl, hc31⟩ rfl (OV.move (v := pv r9) rfl) ?_
      refine GL.call h ⟨_, _, rfl, rfl, hc31⟩ rfl ok_code_Reader_Str (vs := [pv r9, .int .i64 2]) rfl ?_
      rintro _ H33 ⟨r32, rfl, h⟩
      refine GL.val ⟨_, _, rfl, rfl, hc31⟩ rfl (OV.sbin (a := r32) (b := ([97, 0] : Str)) (v := .bool (r32 == ([97, 0] : Str))) rfl rfl rfl) ?_
      refine GL.val trivial rfl (OV.pickT (b := b21) (v := .bool (r32 == ([97, 0] : Str))) rfl hc31 rfl) ?_
      exact GL.jump (fun _ _ h => h) (r32 == ([97, 0] : Str)) h ⟨rfl, rfl, trivial⟩
    · skip
      replace h := And.right h hc31
      refine GL.skip ⟨_, rfl, .inl ⟨_, rfl, hc31⟩⟩ rfl ?_
      refine GL.skip ⟨_, rfl, .inl ⟨_, rfl, hc31⟩⟩ rfl ?_
      refine GL.skip ⟨_, rfl, .inl ⟨_, rfl, hc31⟩⟩ rfl ?_
      refine GL.val trivial rfl (OV.pickF (b := b21) (v := .bool false) rfl hc31 rfl) ?_
      exact GL.jump (fun _ _ h => h) false h ⟨rfl, rfl, trivial⟩
  intro b28 H34 h
  replace h := hR30 b28 H34 h
  refine GL.val trivial rfl (OV.move (v := .bool b28) rfl) ?_
  obtain ⟨J36, h, hR37⟩ := h
  refine GL.cut (α := Bool) 4 J36 (fun b35 => [(31, .bool b35), (2, pv r9)]) ?_ ?_
  · rcases Bool.eq_false_or_eq_true b28 with hc38 | hc38
    · skip
      replace h := And.left h hc38
      refine GL.val ⟨_, _, rfl, rfl, hc38⟩ rfl (OV.move (v := pv r9) rfl) ?_
      refine GL.call h ⟨_, _, rfl, rfl, hc38⟩ rfl ok_code_Reader_Done (vs := [pv r9]) rfl ?_
      rintro _ H40 ⟨r39, rfl, h⟩
      refine GL.val ⟨_, _, rfl, rfl, hc38⟩ rfl (OV.not rfl) ?_
      refine GL.val trivial rfl (OV.pickT (b := b28) (v := .bool (!r39)) rfl hc38 rfl) ?_
      exact GL.jump (fun _ _ h => h) (!r39) h ⟨rfl, rfl, trivial⟩
    · skip
      replace h := And.right h hc38
      refine GL.skip ⟨_, rfl, .inl ⟨_, rfl, hc38⟩⟩ rfl ?_
      refine GL.skip ⟨_, rfl, .inl ⟨_, rfl, hc38⟩⟩ rfl ?_
      refine GL.skip ⟨_, rfl, .inl ⟨_, rfl, hc38⟩⟩ rfl ?_
      refine GL.val trivial rfl (OV.pickF (b := b28) (v := .bool false) rfl hc38 rfl) ?_
      exact GL.jump (fun _ _ h => h) false h ⟨rfl, rfl, trivial⟩
  intro b35 H41 h
  replace h := hR37 b35 H41 h
  refine GL.val trivial rfl (OV.move (v := .bool b35) rfl) ?_
  obtain ⟨J43, h, hR44⟩ := h
  refine GL.cut (α := Bool) 3 J43 (fun b42 => [(35, .bool b42), (2, pv r9)]) ?_ ?_
  · rcases Bool.eq_false_or_eq_true b35 with hc45 | hc45
    · skip
      replace h := And.left h hc45
      refine GL.val ⟨_, _, rfl, rfl, hc45⟩ rfl (OV.move (v := pv r9) rfl) ?_
      refine GL.call h ⟨_, _, rfl, rfl, hc45⟩ rfl ok_code_Reader_Flag (vs := [pv r9]) rfl ?_
      rintro _ H47 ⟨r46, rfl, h⟩
      refine GL.val trivial rfl (OV.pickT (b := b35) (v := .bool r46) rfl hc45 rfl) ?_
      exact GL.jump (fun _ _ h => h) r46 h ⟨rfl, rfl, trivial⟩
    · skip
      replace h := And.right h hc45
      refine GL.skip ⟨_, rfl, .inl ⟨_, rfl, hc45⟩⟩ rfl ?_
      refine GL.skip ⟨_, rfl, .inl ⟨_, rfl, hc45⟩⟩ rfl ?_
      refine GL.val trivial rfl (OV.pickF (b := b35) (v := .bool false) rfl hc45 rfl) ?_
      exact GL.jump (fun _ _ h => h) false h ⟨rfl, rfl, trivial⟩
  intro b42 H48 h
  replace h := hR44 b42 H48 h
  refine GL.val trivial rfl (OV.move (v := .bool b42) rfl) ?_
  obtain ⟨J50, h, hR51⟩ := h
  refine GL.cut (α := Bool) 3 J50 (fun b49 => [(39, .bool b49)]) ?_ ?_
  · rcases Bool.eq_false_or_eq_true b42 with hc52 | hc52
    · skip
      replace h := And.left h hc52
      refine GL.val ⟨_, _, rfl, rfl, hc52⟩ rfl (OV.move (v := pv r9) rfl) ?_
      refine GL.call h ⟨_, _, rfl, rfl, hc52⟩ rfl ok_code_Reader_Done (vs := [pv r9]) rfl ?_
      rintro _ H54 ⟨r53, rfl, h⟩
      refine GL.val trivial rfl (OV.pickT (b := b42) (v := .bool r53) rfl hc52 rfl) ?_
      exact GL.jump (fun _ _ h => h) r53 h ⟨rfl, trivial⟩
    · skip
      replace h := And.right h hc52
      refine GL.skip ⟨_, rfl, .inl ⟨_, rfl, hc52⟩⟩ rfl ?_
      refine GL.skip ⟨_, rfl, .inl ⟨_, rfl, hc52⟩⟩ rfl ?_
      refine GL.val trivial rfl (OV.pickF (b := b42) (v := .bool false) rfl hc52 rfl) ?_
      exact GL.jump (fun _ _ h => h) false h ⟨rfl, trivial⟩
  intro b49 H55 h
  replace h := hR51 b49 H55 h
  refine GL.val trivial rfl (OV.assign (v := .bool b49) rfl) ?_
  refine GL.nil ?_
  exact GC.ret (fun _ _ hf hs => post_tmp1 rfl rfl hf hs ⟨b49, rfl, h⟩)

def sh_code_Num (C : Ctx) (p_b : Sl) (p_n : Int) (K : Sl → Heap → Prop) (H : Heap) : Prop :=
  c_code_behind C p_b (fun r1 H2 =>
 c_code_pen_num C r1 p_n (fun H3 =>
 nck r1 fun p4 =>
 ldL H3 (p4.1, p4.2 + 0) fun x6 =>
 K x6 H3) H2) H

theorem ad_code_Num (C : Ctx) (p_b : Sl) (p_n : Int) (K : Sl → Heap → Prop) (H : Heap) (h : sh_code_Num C p_b p_n K H) : c_code_Num C p_b p_n K H := by
  refine Spec.enter Tryd.func13 rfl Tryd.ntmps13 rfl ?_
  refine GC.sub [(0, slv p_b), (1, .int .i64 p_n)] ⟨rfl, rfl, trivial⟩ ?_
  refine GC.seq ?_
  refine GC.region ?_
  refine GL.val trivial rfl (OV.assign (v := slv Sl.nil) rfl) ?_
  refine GL.nil ?_
  refine GC.seq ?_
  refine GC.region ?_
  refine GL.val trivial rfl (OV.move (v := slv p_b) rfl) ?_
  refine GL.call h trivial rfl ok_code_behind (vs := [slv p_b]) rfl ?_
  rintro _ H2 ⟨r1, rfl, h⟩
  refine GL.val trivial rfl (OV.assign (v := pv r1) rfl) ?_
  refine GL.nil ?_
  refine GC.seq ?_
  refine GC.region ?_
  refine GL.val trivial rfl (OV.move (v := pv r1) rfl) ?_
  refine GL.val trivial rfl (OV.move (v := .int .i64 p_n) rfl) ?_
  refine GL.call h trivial rfl ok_code_pen_num (vs := [pv r1, .int .i64 p_n]) rfl ?_
  rintro _ H3 ⟨rfl, h⟩
  refine GL.nil ?_
  refine GC.seq ?_
  refine GC.region ?_
  refine GL.val trivial rfl (OV.move (v := pv r1) rfl) ?_
  obtain ⟨p4, hp5, h⟩ := h
  refine GL.val trivial rfl (OV.nilCheck (q := r1) rfl hp5) ?_
  refine GL.val trivial rfl (OV.fieldAddr (p := p4) rfl rfl) ?_
  obtain ⟨x6, hr7, h⟩ := h
  refine GL.val trivial rfl (OV.load (p := (p4.1, p4.2 + 0)) rfl rfl hr7) ?_
  refine GL.val trivial rfl (OV.assign (v := slv x6) rfl) ?_
  refine GL.nil ?_
  exact GC.ret (fun _ _ hf hs => post_tmp1 rfl rfl hf hs ⟨x6, rfl, h⟩)

def sh_code_Count (C : Ctx) (p_b : Sl) (p_n : Int) (K : Sl → Heap → Prop) (H : Heap) : Prop :=
  c_code_behind C p_b (fun r1 H2 =>
 jn (α := Unit) (fun x4 H5 =>
 nck r1 fun p10 =>
 ldL H5 (p10.1, p10.2 + 0) fun x12 =>
 K x12 H5)
 (fun J3 => ift ((decide ((p_n : Int) ≥ 0)) && (decide ((p_n : Int) ≤ 2147483647)))
 (c_code_pen_number C r1 0 (w .u64 p_n) (fun H9 =>
 J3 () H9) H2)
 (J3 () H2))) H

theorem ad_code_Count (C : Ctx) (p_b : Sl) (p_n : Int) (K : Sl → Heap → Prop) (H : Heap) (h : sh_code_Count C p_b p_n K H) : c_code_Count C p_b p_n K H := by
  refine Spec.enter Tryd.func15 rfl Tryd.ntmps15 rfl ?_
  refine GC.sub [(0, slv p_b), (1, .int .i64 p_n)] ⟨rfl, rfl, trivial⟩ ?_
  refine GC.seq ?_
  refine GC.region ?_
  refine GL.val trivial rfl (OV.assign (v := slv Sl.nil) rfl) ?_
  refine GL.nil ?_
  refine GC.seq ?_
  refine GC.region ?_
  refine GL.val trivial rfl (OV.move (v := slv p_b) rfl) ?_
  refine GL.call h trivial rfl ok_code_behind (vs := [slv p_b]) rfl ?_
  rintro _ H2 ⟨r1, rfl, h⟩
  refine GL.val trivial rfl (OV.assign (v := pv r1) rfl) ?_
  refine GL.nil ?_
  obtain ⟨J3, h, hR6⟩ := h
  refine GC.join (α := Unit) J3 (fun _ => [(5, pv r1)]) ?_ ?_
  · skip
    refine GC.seq ?_
    refine GC.region ?_
    refine GL.val trivial rfl (OV.move (v := .int .i64 p_n) rfl) ?_
    refine GL.val trivial rfl (OV.ibin (v := .bool (decide ((p_n : Int) ≥ 0))) rfl rfl rfl) ?_
    refine GL.val trivial rfl (OV.move (v := .bool (decide ((p_n : Int) ≥ 0))) rfl) ?_
    refine GL.cut0 3 [(13, .bool ((decide ((p_n : Int) ≥ 0)) && (decide ((p_n : Int) ≤ 2147483647)))), (1, .int .i64 p_n), (5, pv r1)] ?_ ?_
    · rcases Bool.eq_false_or_eq_true (decide ((p_n : Int) ≥ 0)) with hc7 | hc7
      · skip
        refine GL.val ⟨_, _, rfl, rfl, hc7⟩ rfl (OV.move (v := .int .i64 p_n) rfl) ?_
        refine GL.val ⟨_, _, rfl, rfl, hc7⟩ rfl (OV.ibin (v := .bool (decide ((p_n : Int) ≤ 2147483647))) rfl rfl rfl) ?_
        refine GL.val trivial rfl (OV.pickT (b := decide ((p_n : Int) ≥ 0)) (v := .bool (decide ((p_n : Int) ≤ 2147483647))) rfl hc7 rfl) ?_
        exact GL.jump0 (fun _ _ h => h) () rfl ⟨(by rw [hc7]; rfl), rfl, rfl, trivial⟩
      · skip
        refine GL.skip ⟨_, rfl, .inl ⟨_, rfl, hc7⟩⟩ rfl ?_
        refine GL.skip ⟨_, rfl, .inl ⟨_, rfl, hc7⟩⟩ rfl ?_
        refine GL.val trivial rfl (OV.pickF (b := decide ((p_n : Int) ≥ 0)) (v := .bool false) rfl hc7 rfl) ?_
        exact GL.jump0 (fun _ _ h => h) () rfl ⟨(by rw [hc7]; rfl), rfl, rfl, trivial⟩
    refine GL.nil ?_
    refine GC.cond (b := (decide ((p_n : Int) ≥ 0)) && (decide ((p_n : Int) ≤ 2147483647))) rfl (fun hc8 => ?_) (fun hc8 => ?_)
    · replace h := And.left h hc8
      refine GC.region ?_
      refine GL.val trivial rfl (OV.move (v := pv r1) rfl) ?_
      refine GL.val trivial rfl (OV.move (v := .int .i64 p_n) rfl) ?_
      refine GL.val trivial rfl (OV.convInt rfl rfl rfl) ?_
      refine GL.call h trivial rfl ok_code_pen_number (vs := [pv r1, .int .u8 0, .int .u64 (w .u64 p_n)]) rfl ?_
      rintro _ H9 ⟨rfl, h⟩
      exact GL.jump (fun _ _ h => h) () h ⟨rfl, trivial⟩
    · replace h := And.right h hc8
      exact GC.jump (fun _ _ h => h) () h ⟨rfl, trivial⟩
  · intro x4 H5 h
    replace h := hR6 x4 H5 h
    refine GC.seq ?_
    refine GC.region ?_
    refine GL.val trivial rfl (OV.move (v := pv r1) rfl) ?_
    obtain ⟨p10, hp11, h⟩ := h
    refine GL.val trivial rfl (OV.nilCheck (q := r1) rfl hp11) ?_
    refine GL.val trivial rfl (OV.fieldAddr (p := p10) rfl rfl) ?_
    obtain ⟨x12, hr13, h⟩ := h
    refine GL.val trivial rfl (OV.load (p := (p10.1, p10.2 + 0)) rfl rfl hr13) ?_
    refine GL.val trivial rfl (OV.assign (v := slv x12) rfl) ?_
    refine GL.nil ?_
    exact GC.ret (fun _ _ hf hs => post_tmp1 rfl rfl hf hs ⟨x12, rfl, h⟩)

def sh_code_Str (C : Ctx) (p_b : Sl) (p_s : Str) (K : Sl → Heap → Prop) (H : Heap) : Prop :=
  c_code_behind C p_b (fun r1 H2 =>
 c_code_pen_text C r1 p_s (fun H3 =>
 nck r1 fun p4 =>
 ldL H3 (p4.1, p4.2 + 0) fun x6 =>
 K x6 H3) H2) H

theorem ad_code_Str (C : Ctx) (p_b : Sl) (p_s : Str) (K : Sl → Heap → Prop) (H : Heap) (h : sh_code_Str C p_b p_s K H) : c_code_Str C p_b p_s K H := by
  refine Spec.enter Tryd.func17 rfl Tryd.ntmps17 rfl ?_
  refine GC.sub [(0, slv p_b), (1, sv p_s)] ⟨rfl, rfl, trivial⟩ ?_
  refine GC.seq ?_
  refine GC.region ?_
  refine GL.val trivial rfl (OV.assign (v := slv Sl.nil) rfl) ?_
  refine GL.nil ?_
  refine GC.seq ?_
  refine GC.region ?_
  refine GL.val trivial rfl (OV.move (v := slv p_b) rfl) ?_
  refine GL.call h trivial rfl ok_code_behind (vs := [slv p_b]) rfl ?_
  rintro _ H2 ⟨r1, rfl, h⟩
  refine GL.val trivial rfl (OV.assign (v := pv r1) rfl) ?_
  refine GL.nil ?_
  refine GC.seq ?_
  refine GC.region ?_
  refine GL.val trivial rfl (OV.move (v := pv r1) rfl) ?_
  refine GL.val trivial rfl (OV.move (v := sv p_s) rfl) ?_
  refine GL.call h trivial rfl ok_code_pen_text (vs := [pv r1, sv p_s]) rfl ?_
  rintro _ H3 ⟨rfl, h⟩
  refine GL.nil ?_
  refine GC.seq ?_
  refine GC.region ?_
  refine GL.val trivial rfl (OV.move (v := pv r1) rfl) ?_
  obtain ⟨p4, hp5, h⟩ := h
  refine GL.val trivial rfl (OV.nilCheck (q := r1) rfl hp5) ?_
  refine GL.val trivial rfl (OV.fieldAddr (p := p4) rfl rfl) ?_
  obtain ⟨x6, hr7, h⟩ := h
  refine GL.val trivial rfl (OV.load (p := (p4.1, p4.2 + 0)) rfl rfl hr7) ?_
  refine GL.val trivial rfl (OV.assign (v := slv x6) rfl) ?_
  refine GL.nil ?_
  exact GC.ret (fun _ _ hf hs => post_tmp1 rfl rfl hf hs ⟨x6, rfl, h⟩)

def sh_code_Flag (C : Ctx) (p_b : Sl) (p_v : Bool) (K : Sl → Heap → Prop) (H : Heap) : Prop :=
  c_code_behind C p_b (fun r1 H2 =>
 jn (α := Unit) (fun x4 H5 =>
 nck r1 fun p14 =>
 ldL H5 (p14.1, p14.2 + 0) fun x16 =>
 K x16 H5)
 (fun J3 => ift p_v
 (nw ([.int .u8 1]) (fun b8 H9 =>
 c_code_pen_put C r1 (Sl.of (some (b8, 0)) 1 1) (fun H10 =>
 J3 () H10) H9) H2)
 (nw ([.int .u8 0]) (fun b11 H12 =>
 c_code_pen_put C r1 (Sl.of (some (b11, 0)) 1 1) (fun H13 =>
 J3 () H13) H12) H2))) H

theorem ad_code_Flag (C : Ctx) (p_b : Sl) (p_v : Bool) (K : Sl → Heap → Prop) (H : Heap) (h : sh_code_Flag C p_b p_v K H) : c_code_Flag C p_b p_v K H := by
  refine Spec.enter Tryd.func19 rfl Tryd.ntmps19 rfl ?_
  refine GC.sub [(0, slv p_b), (1, .bool p_v)] ⟨rfl, rfl, trivial⟩ ?_
  refine GC.seq ?_
  refine GC.region ?_
  refine GL.val trivial rfl (OV.assign (v := slv Sl.nil) rfl) ?_
  refine GL.nil ?_
  refine GC.seq ?_
  refine GC.region ?_
  refine GL.val trivial rfl (OV.move (v := slv p_b) rfl) ?_
  refine GL.call h trivial rfl ok_code_behind (vs := [slv p_b]) rfl ?_
  rintro _ H2 ⟨r1, rfl, h⟩
  refine GL.val trivial rfl (OV.assign (v := pv r1) rfl) ?_
  refine GL.nil ?_
  obtain ⟨J3, h, hR6⟩ := h
  refine GC.join (α := Unit) J3 (fun _ => [(5, pv r1)]) ?_ ?_
  · skip
    refine GC.seq ?_
    refine GC.region ?_
    refine GL.val trivial rfl (OV.move (v := .bool p_v) rfl) ?_
    refine GL.nil ?_
    refine GC.cond (b := p_v) rfl (fun hc7 => ?_) (fun hc7 => ?_)
    · replace h := And.left h hc7
      refine GC.region ?_
      refine GL.val trivial rfl (OV.move (v := pv r1) rfl) ?_
      refine GL.buildSlice (cs := [.int .u8 1]) h trivial rfl (vs := [(0, .int .u8 1)]) rfl ⟨5, fun _ => by kernel_rfl⟩ ?_
      intro b8 H9 h
      refine GL.call h trivial rfl ok_code_pen_put (vs := [pv r1, slv (Sl.of (some (b8, 0)) 1 1)]) rfl ?_
      rintro _ H10 ⟨rfl, h⟩
      exact GL.jump (fun _ _ h => h) () h ⟨rfl, trivial⟩
    · replace h := And.right h hc7
      refine GC.region ?_
      refine GL.val trivial rfl (OV.move (v := pv r1) rfl) ?_
      refine GL.buildSlice (cs := [.int .u8 0]) h trivial rfl (vs := [(0, .int .u8 0)]) rfl ⟨5, fun _ => by kernel_rfl⟩ ?_
      intro b11 H12 h
      refine GL.call h trivial rfl ok_code_pen_put (vs := [pv r1, slv (Sl.of (some (b11, 0)) 1 1)]) rfl ?_
      rintro _ H13 ⟨rfl, h⟩
      exact GL.jump (fun _ _ h => h) () h ⟨rfl, trivial⟩
  · intro x4 H5 h
    replace h := hR6 x4 H5 h
    refine GC.seq ?_
    refine GC.region ?_
    refine GL.val trivial rfl (OV.move (v := pv r1) rfl) ?_
    obtain ⟨p14, hp15, h⟩ := h
    refine GL.val trivial rfl (OV.nilCheck (q := r1) rfl hp15) ?_
    refine GL.val trivial rfl (OV.fieldAddr (p := p14) rfl rfl) ?_
    obtain ⟨x16, hr17, h⟩ := h
    refine GL.val trivial rfl (OV.load (p := (p14.1, p14.2 + 0)) rfl rfl hr17) ?_
    refine GL.val trivial rfl (OV.assign (v := slv x16) rfl) ?_
    refine GL.nil ?_
    exact GC.ret (fun _ _ hf hs => post_tmp1 rfl rfl hf hs ⟨x16, rfl, h⟩)

def sh_law03_behind (C : Ctx) (p_a : Sl) (p_b : Sl) (K : Sl → Heap → Prop) (H : Heap) : Prop :=
  nw ([]) (fun b1 H2 =>
 apS ([.int .u8 0]) 1 (Sl.of (some (b1, 0)) 0 0) p_a (fun r3 H4 =>
 apS ([.int .u8 0]) 1 r3 p_b (fun r5 H6 =>
 K r5 H6) H4) H2) H

theorem ad_law03_behind (C : Ctx) (p_a : Sl) (p_b : Sl) (K : Sl → Heap → Prop) (H : Heap) (h : sh_law03_behind C p_a p_b K H) : c_law03_behind C p_a p_b K H := by
  refine Spec.enter Tryd.func25 rfl Tryd.ntmps25 rfl ?_
  refine GC.sub [(0, slv p_a), (1, slv p_b)] ⟨rfl, rfl, trivial⟩ ?_
  refine GC.seq ?_
  refine GC.region ?_
  refine GL.val trivial rfl (OV.assign (v := slv Sl.nil) rfl) ?_
  refine GL.nil ?_
  refine GC.seq ?_
  refine GC.region ?_
  refine GL.buildSlice (cs := []) h trivial rfl (vs := []) rfl ⟨5, fun _ => by kernel_rfl⟩ ?_
  intro b1 H2 h
  refine GL.val trivial rfl (OV.move (v := slv p_a) rfl) ?_
  refine GL.appendS (s := (Sl.of (some (b1, 0)) 0 0)) (s2 := p_a) (zc := [.int .u8 0]) (bytes := 1) h trivial rfl rfl rfl ⟨⟨_, _, _, rfl, rfl, rfl, rfl, rfl, rfl⟩⟩ rfl ?_
  intro r3 H4 h
  refine GL.val trivial rfl (OV.move (v := slv p_b) rfl) ?_
  refine GL.appendS (s := r3) (s2 := p_b) (zc := [.int .u8 0]) (bytes := 1) h trivial rfl rfl rfl ⟨⟨_, _, _, rfl, rfl, rfl, rfl, rfl, rfl⟩⟩ rfl ?_
  intro r5 H6 h
  refine GL.val trivial rfl (OV.assign (v := slv r5) rfl) ?_
  refine GL.nil ?_
  exact GC.ret (fun _ _ hf hs => post_tmp1 rfl rfl hf hs ⟨r5, rfl, h⟩)

def sh_code_NewReader (C : Ctx) (p_b : Sl) (K : Option (Nat × Nat) → Heap → Prop) (H : Heap) : Prop :=
  c_slices_Clone_byte_byte C p_b (fun r1 H2 =>
 nw (T_code_Reader.c (⟨r1, 0, false⟩ : T_code_Reader)) (fun b3 H4 =>
 K (some (b3, 0)) H4) H2) H

theorem ad_code_NewReader (C : Ctx) (p_b : Sl) (K : Option (Nat × Nat) → Heap → Prop) (H : Heap) (h : sh_code_NewReader C p_b K H) : c_code_NewReader C p_b K H := by
  refine Spec.enter Tryd.func28 rfl Tryd.ntmps28 rfl ?_
  refine GC.sub [(0, slv p_b)] ⟨rfl, trivial⟩ ?_
  refine GC.seq ?_
  refine GC.region ?_
  refine GL.val trivial rfl (OV.assign (v := pv none) rfl) ?_
  refine GL.nil ?_
  refine GC.seq ?_
  refine GC.region ?_
  refine GL.val trivial rfl (OV.move (v := slv p_b) rfl) ?_
  refine GL.call h trivial rfl ok_slices_Clone_byte_byte (vs := [slv p_b]) rfl ?_
  rintro _ H2 ⟨r1, rfl, h⟩
  refine GL.val trivial rfl (OV.build (vs := [(0, slv r1)]) (v := .agg (T_code_Reader.c (⟨r1, 0, false⟩ : T_code_Reader)).toArray) rfl (fun _ => by kernel_rfl)) ?_
  refine GL.box (v := .agg (T_code_Reader.c (⟨r1, 0, false⟩ : T_code_Reader)).toArray) (cs := T_code_Reader.c (⟨r1, 0, false⟩ : T_code_Reader)) h trivial rfl rfl rfl ?_
  intro b3 H4 h
  refine GL.val trivial rfl (OV.assign (v := pv (some (b3, 0))) rfl) ?_
  refine GL.nil ?_
  exact GC.ret (fun _ _ hf hs => post_tmp1 rfl rfl hf hs ⟨(some (b3, 0)), rfl, h⟩)

def sh_law03_Ask_of (C : Ctx) (p_a : T_law03_Ask) (p_r : Option (Nat × Nat)) (K : T_law03_told → Heap → Prop) (H : Heap) : Prop :=
  nw (T_law03_Ask.c p_a) (fun b1 H2 =>
 nw (T_law03_told.c T_law03_told.zero) (fun b3 H4 =>
 nw (T_law03_told.c T_law03_told.zero) (fun b5 H6 =>
 jn (α := Unit) (fun x8 H9 =>
 c_code_Reader_OK C p_r (fun r37 H38 =>
 st ((b5, 0).1, (b5, 0).2 + 6) (.bool r37) (fun H39 =>
 ldT H39 T_law03_told.c (b5, 0) fun x40 =>
 stT (b3, 0) (T_law03_told.c x40) (fun H42 =>
 ldT H42 T_law03_told.c (b3, 0) fun x43 =>
 K x43 H42) H39) H38) H9)
 (fun J7 => ldI H6 .u8 ((b1, 0).1, (b1, 0).2 + 0) fun x11 =>
 ift ((x11 : Int) == 0)
 (c_code_Reader_Num C p_r (fun r14 H15 =>
 st ((b5, 0).1, (b5, 0).2 + 0) (.int .i64 r14) (fun H16 =>
 J7 () H16) H15) H6)
 (ift ((x11 : Int) == 1)
 (ldI H6 .i64 ((b1, 0).1, (b1, 0).2 + 1) fun x18 =>
 c_code_Reader_Count C p_r x18 (fun r20 H21 =>
 st ((b5, 0).1, (b5, 0).2 + 0) (.int .i64 r20) (fun H22 =>
 J7 () H22) H21) H6)
 (ift ((x11 : Int) == 2)
 (ldI H6 .i64 ((b1, 0).1, (b1, 0).2 + 1) fun x24 =>
 c_code_Reader_Str C p_r x24 (fun r26 H27 =>
 st ((b5, 0).1, (b5, 0).2 + 1) (sv r26) (fun H28 =>
 J7 () H28) H27) H6)
 (ift ((x11 : Int) == 3)
 (c_code_Reader_Flag C p_r (fun r30 H31 =>
 ift r30
 (st ((b5, 0).1, (b5, 0).2 + 0) (.int .i64 1) (fun H33 =>
 J7 () H33) H31)
 (J7 () H31)) H6)
 (c_code_Reader_Value C p_r (fun r34 H35 =>
 stT ((b5, 0).1, (b5, 0).2 + 2) (T_api_Value.c r34) (fun H36 =>
 J7 () H36) H35) H6)))))) H4) H2) H

theorem ad_law03_Ask_of (C : Ctx) (p_a : T_law03_Ask) (p_r : Option (Nat × Nat)) (K : T_law03_told → Heap → Prop) (H : Heap) (h : sh_law03_Ask_of C p_a p_r K H) : c_law03_Ask_of C p_a p_r K H := by
  refine Spec.enter Tryd.func29 rfl Tryd.ntmps29 rfl ?_
  refine GC.sub [(0, .agg (T_law03_Ask.c p_a).toArray), (1, pv p_r)] ⟨rfl, rfl, trivial⟩ ?_
  refine GC.seq ?_
  refine GC.region ?_
  refine GL.box (v := .agg (T_law03_Ask.c p_a).toArray) (cs := T_law03_Ask.c p_a) h trivial rfl rfl rfl ?_
  intro b1 H2 h
  refine GL.alloc (cs := T_law03_told.c T_law03_told.zero) h trivial rfl rfl rfl ?_
  intro b3 H4 h
  refine GL.nil ?_
  refine GC.seq ?_
  refine GC.region ?_
  refine GL.alloc (cs := T_law03_told.c T_law03_told.zero) h trivial rfl rfl rfl ?_
  intro b5 H6 h
  refine GL.nil ?_
  obtain ⟨J7, h, hR10⟩ := h
  refine GC.join (α := Unit) J7 (fun _ => [(1, pv p_r), (4, pv (some (b3, 0))), (5, pv (some (b5, 0)))]) ?_ ?_
  · skip
    refine GC.seq ?_
    refine GC.region ?_
    refine GL.val trivial rfl (OV.fieldAddr (p := (b1, 0)) rfl rfl) ?_
    obtain ⟨x11, hr12, h⟩ := h
    refine GL.val trivial rfl (OV.load (p := ((b1, 0).1, (b1, 0).2 + 0)) rfl rfl hr12) ?_
    refine GL.nil ?_
    refine GC.block ?_
    refine GC.seq ?_
    refine GC.region ?_
    refine GL.val trivial rfl (OV.ibin (v := .bool ((x11 : Int) == 0)) rfl rfl rfl) ?_
    refine GL.val trivial rfl (OV.assign (v := .bool ((x11 : Int) == 0)) rfl) ?_
    refine GL.nil ?_
    refine GC.cond (b := (x11 : Int) == 0) rfl (fun hc13 => ?_) (fun hc13 => ?_)
    · replace h := And.left h hc13
      refine GC.region ?_
      refine GL.val trivial rfl (OV.move (v := pv p_r) rfl) ?_
      refine GL.call h trivial rfl ok_code_Reader_Num (vs := [pv p_r]) rfl ?_
      rintro _ H15 ⟨r14, rfl, h⟩
      refine GL.val trivial rfl (OV.fieldAddr (p := (b5, 0)) rfl rfl) ?_
      refine GL.store (p := ((b5, 0).1, (b5, 0).2 + 0)) (v := .int .i64 r14) h trivial rfl rfl rfl rfl ?_
      intro H16 h
      exact GL.jump (fun _ _ h => h) () h ⟨rfl, rfl, rfl, trivial⟩
    · replace h := And.right h hc13
      refine GC.seq ?_
      refine GC.region ?_
      refine GL.val trivial rfl (OV.ibin (v := .bool ((x11 : Int) == 1)) rfl rfl rfl) ?_
      refine GL.val trivial rfl (OV.assign (v := .bool ((x11 : Int) == 1)) rfl) ?_
      refine GL.nil ?_
      refine GC.cond (b := (x11 : Int) == 1) rfl (fun hc17 => ?_) (fun hc17 => ?_)
      · replace h := And.left h hc17
        refine GC.region ?_
        refine GL.val trivial rfl (OV.move (v := pv p_r) rfl) ?_
        refine GL.val trivial rfl (OV.fieldAddr (p := (b1, 0)) rfl rfl) ?_
        obtain ⟨x18, hr19, h⟩ := h
        refine GL.val trivial rfl (OV.load (p := ((b1, 0).1, (b1, 0).2 + 1)) rfl rfl hr19) ?_
        refine GL.call h trivial rfl ok_code_Reader_Count (vs := [pv p_r, .int .i64 x18]) rfl ?_
        rintro _ H21 ⟨r20, rfl, h⟩
        refine GL.val trivial rfl (OV.fieldAddr (p := (b5, 0)) rfl rfl) ?_
        refine GL.store (p := ((b5, 0).1, (b5, 0).2 + 0)) (v := .int .i64 r20) h trivial rfl rfl rfl rfl ?_
        intro H22 h
        exact GL.jump (fun _ _ h => h) () h ⟨rfl, rfl, rfl, trivial⟩
      · replace h := And.right h hc17
        refine GC.seq ?_
        refine GC.region ?_
        refine GL.val trivial rfl (OV.ibin (v := .bool ((x11 : Int) == 2)) rfl rfl rfl) ?_
        refine GL.val trivial rfl (OV.assign (v := .bool ((x11 : Int) == 2)) rfl) ?_
        refine GL.nil ?_
        refine GC.cond (b := (x11 : Int) == 2) rfl (fun hc23 => ?_) (fun hc23 => ?_)
        · replace h := And.left h hc23
          refine GC.region ?_
          refine GL.val trivial rfl (OV.move (v := pv p_r) rfl) ?_
          refine GL.val trivial rfl (OV.fieldAddr (p := (b1, 0)) rfl rfl) ?_
          obtain ⟨x24, hr25, h⟩ := h
          refine GL.val trivial rfl (OV.load (p := ((b1, 0).1, (b1, 0).2 + 1)) rfl rfl hr25) ?_
          refine GL.call h trivial rfl ok_code_Reader_Str (vs := [pv p_r, .int .i64 x24]) rfl ?_
          rintro _ H27 ⟨r26, rfl, h⟩
          refine GL.val trivial rfl (OV.fieldAddr (p := (b5, 0)) rfl rfl) ?_
          refine GL.store (p := ((b5, 0).1, (b5, 0).2 + 1)) (v := sv r26) h trivial rfl rfl rfl rfl ?_
          intro H28 h
          exact GL.jump (fun _ _ h => h) () h ⟨rfl, rfl, rfl, trivial⟩
        · replace h := And.right h hc23
          refine GC.seq ?_
          refine GC.region ?_
          refine GL.val trivial rfl (OV.ibin (v := .bool ((x11 : Int) == 3)) rfl rfl rfl) ?_
          refine GL.val trivial rfl (OV.assign (v := .bool ((x11 : Int) == 3)) rfl) ?_
          refine GL.nil ?_
          refine GC.cond (b := (x11 : Int) == 3) rfl (fun hc29 => ?_) (fun hc29 => ?_)
          · replace h := And.left h hc29
            refine GC.seq ?_
            refine GC.region ?_
            refine GL.val trivial rfl (OV.move (v := pv p_r) rfl) ?_
            refine GL.call h trivial rfl ok_code_Reader_Flag (vs := [pv p_r]) rfl ?_
            rintro _ H31 ⟨r30, rfl, h⟩
            refine GL.nil ?_
            refine GC.cond (b := r30) rfl (fun hc32 => ?_) (fun hc32 => ?_)
            · replace h := And.left h hc32
              refine GC.region ?_
              refine GL.val trivial rfl (OV.fieldAddr (p := (b5, 0)) rfl rfl) ?_
              refine GL.store (p := ((b5, 0).1, (b5, 0).2 + 0)) (v := .int .i64 1) h trivial rfl rfl rfl rfl ?_
              intro H33 h
              exact GL.jump (fun _ _ h => h) () h ⟨rfl, rfl, rfl, trivial⟩
            · replace h := And.right h hc32
              exact GC.jump (fun _ _ h => h) () h ⟨rfl, rfl, rfl, trivial⟩
          · replace h := And.right h hc29
            refine GC.region ?_
            refine GL.val trivial rfl (OV.move (v := pv p_r) rfl) ?_
            refine GL.call h trivial rfl ok_code_Reader_Value (vs := [pv p_r]) rfl ?_
            rintro _ H35 ⟨r34, rfl, h⟩
            refine GL.val trivial rfl (OV.fieldAddr (p := (b5, 0)) rfl rfl) ?_
            refine GL.storeT (p := ((b5, 0).1, (b5, 0).2 + 2)) (vs := T_api_Value.c r34) h trivial rfl rfl rfl rfl ?_
            intro H36 h
            exact GL.jump (fun _ _ h => h) () h ⟨rfl, rfl, rfl, trivial⟩
  · intro x8 H9 h
    replace h := hR10 x8 H9 h
    refine GC.seq ?_
    refine GC.region ?_
    refine GL.val trivial rfl (OV.move (v := pv p_r) rfl) ?_
    refine GL.call h trivial rfl ok_code_Reader_OK (vs := [pv p_r]) rfl ?_
    rintro _ H38 ⟨r37, rfl, h⟩
    refine GL.val trivial rfl (OV.fieldAddr (p := (b5, 0)) rfl rfl) ?_
    refine GL.store (p := ((b5, 0).1, (b5, 0).2 + 6)) (v := .bool r37) h trivial rfl rfl rfl rfl ?_
    intro H39 h
    refine GL.nil ?_
    refine GC.seq ?_
    refine GC.region ?_
    obtain ⟨x40, hr41, h⟩ := h
    refine GL.val trivial rfl (OV.loadT (p := (b5, 0)) (cs := T_law03_told.c x40) rfl rfl rfl hr41) ?_
    refine GL.storeT (p := (b3, 0)) (vs := T_law03_told.c x40) h trivial rfl rfl rfl rfl ?_
    intro H42 h
    refine GL.nil ?_
    obtain ⟨x43, hr44, h⟩ := h
    exact GC.ret (fun _ _ hf hs => post_res1 rfl (RV.cellT (p := (b3, 0)) (cs := T_law03_told.c x43) rfl rfl rfl hr44) hf hs ⟨x43, rfl, h⟩)

def sh_code_Reader_Left (C : Ctx) (p_r : Option (Nat × Nat)) (K : Int → Heap → Prop) (H : Heap) : Prop :=
  ift (Option.isNone p_r)
 (K 0 H)
 (nck p_r fun p2 =>
 ldL H (p2.1, p2.2 + 0) fun x4 =>
 K (Sl.len x4 : Int) H)

theorem ad_code_Reader_Left (C : Ctx) (p_r : Option (Nat × Nat)) (K : Int → Heap → Prop) (H : Heap) (h : sh_code_Reader_Left C p_r K H) : c_code_Reader_Left C p_r K H := by
  refine Spec.enter Tryd.func30 rfl Tryd.ntmps30 rfl ?_
  refine GC.sub [(0, pv p_r)] ⟨rfl, trivial⟩ ?_
  refine GC.seq ?_
  refine GC.region ?_
  refine GL.val trivial rfl (OV.assign (v := .int .i64 0) rfl) ?_
  refine GL.nil ?_
  refine GC.seq ?_
  refine GC.seq ?_
  refine GC.region ?_
  refine GL.val trivial rfl (OV.move (v := pv p_r) rfl) ?_
  refine GL.val trivial rfl (OV.eqlNil (p := p_r) rfl rfl rfl) ?_
  refine GL.nil ?_
  refine GC.cond (b := Option.isNone p_r) rfl (fun hc1 => ?_) (fun hc1 => ?_)
  · replace h := And.left h hc1
    refine GC.seq ?_
    refine GC.region ?_
    refine GL.val trivial rfl (OV.assign (v := .int .i64 0) rfl) ?_
    refine GL.nil ?_
    exact GC.ret (fun _ _ hf hs => post_tmp1 rfl rfl hf hs ⟨0, rfl, h⟩)
  · replace h := And.right h hc1
    refine GC.skip ?_
    refine GC.seq ?_
    refine GC.region ?_
    refine GL.val trivial rfl (OV.move (v := pv p_r) rfl) ?_
    obtain ⟨p2, hp3, h⟩ := h
    refine GL.val trivial rfl (OV.nilCheck (q := p_r) rfl hp3) ?_
    refine GL.val trivial rfl (OV.fieldAddr (p := p2) rfl rfl) ?_
    obtain ⟨x4, hr5, h⟩ := h
    refine GL.val trivial rfl (OV.load (p := (p2.1, p2.2 + 0)) rfl rfl hr5) ?_
    refine GL.val trivial rfl (OV.lenSl (s := x4) rfl rfl) ?_
    refine GL.val trivial rfl (OV.assign (v := .int .i64 (Sl.len x4 : Int)) rfl) ?_
    refine GL.nil ?_
    exact GC.ret (fun _ _ hf hs => post_tmp1 rfl rfl hf hs ⟨(Sl.len x4 : Int), rfl, h⟩)

def sh_law03_told_same (C : Ctx) (p_t : T_law03_told) (p_o : T_law03_told) (K : Bool → Heap → Prop) (H : Heap) : Prop :=
  nw (T_law03_told.c p_t) (fun b1 H2 =>
 nw (T_law03_told.c p_o) (fun b3 H4 =>
 ldI H4 .i64 ((b1, 0).1, (b1, 0).2 + 0) fun x5 =>
 ldI H4 .i64 ((b3, 0).1, (b3, 0).2 + 0) fun x7 =>
 jn (α := Bool) (fun b9 H17 =>
 jn (α := Bool) (fun b18 H26 =>
 jn (α := Bool) (fun b27 H37 =>
 K b27 H37)
 (fun J28 => ift b18
 (ldT H26 T_api_Value.c ((b1, 0).1, (b1, 0).2 + 2) fun x31 =>
 ldT H26 T_api_Value.c ((b3, 0).1, (b3, 0).2 + 2) fun x33 =>
 c_ref02_Same C x31 x33 (fun r35 H36 =>
 J28 r35 H36) H26)
 (J28 false H26)))
 (fun J19 => ift b9
 (ldB H17 ((b1, 0).1, (b1, 0).2 + 6) fun x22 =>
 ldB H17 ((b3, 0).1, (b3, 0).2 + 6) fun x24 =>
 J19 (x22 == x24) H17)
 (J19 false H17)))
 (fun J10 => ift ((x5 : Int) == x7)
 (ldS H4 ((b1, 0).1, (b1, 0).2 + 1) fun x13 =>
 ldS H4 ((b3, 0).1, (b3, 0).2 + 1) fun x15 =>
 J10 (x13 == x15) H4)
 (J10 false H4))) H2) H

theorem ad_law03_told_same (C : Ctx) (p_t : T_law03_told) (p_o : T_law03_told) (K : Bool → Heap → Prop) (H : Heap) (h : sh_law03_told_same C p_t p_o K H) : c_law03_told_same C p_t p_o K H := by
  refine Spec.enter Tryd.func31 rfl Tryd.ntmps31 rfl ?_
  refine GC.sub [(0, .agg (T_law03_told.c p_t).toArray), (1, .agg (T_law03_told.c p_o).toArray)] ⟨rfl, rfl, trivial⟩ ?_
  refine GC.seq ?_
  refine GC.region ?_
  refine GL.box (v := .agg (T_law03_told.c p_t).toArray) (cs := T_law03_told.c p_t) h trivial rfl rfl rfl ?_
  intro b1 H2 h
  refine GL.box (v := .agg (T_law03_told.c p_o).toArray) (cs := T_law03_told.c p_o) h trivial rfl rfl rfl ?_
  intro b3 H4 h
  refine GL.val trivial rfl (OV.assign (v := .bool false) rfl) ?_
  refine GL.nil ?_
  refine GC.seq ?_
  refine GC.region ?_
  refine GL.val trivial rfl (OV.fieldAddr (p := (b1, 0)) rfl rfl) ?_
  obtain ⟨x5, hr6, h⟩ := h
  refine GL.val trivial rfl (OV.load (p := ((b1, 0).1, (b1, 0).2 + 0)) rfl rfl hr6) ?_
  refine GL.val trivial rfl (OV.fieldAddr (p := (b3, 0)) rfl rfl) ?_
  obtain ⟨x7, hr8, h⟩ := h
  refine GL.val trivial rfl (OV.load (p := ((b3, 0).1, (b3, 0).2 + 0)) rfl rfl hr8) ?_
  refine GL.val trivial rfl (OV.ibin (v := .bool ((x5 : Int) == x7)) rfl rfl rfl) ?_
  refine GL.val trivial rfl (OV.move (v := .bool ((x5 : Int) == x7)) rfl) ?_
  obtain ⟨J10, h, hR11⟩ := h
  refine GL.cut (α := Bool) 6 J10 (fun b9 => [(16, .bool b9), (2, pv (some (b1, 0))), (3, pv (some (b3, 0)))]) ?_ ?_
  · rcases Bool.eq_false_or_eq_true ((x5 : Int) == x7) with hc12 | hc12
    · skip
      replace h := And.left h hc12
      refine GL.val ⟨_, _, rfl, rfl, hc12⟩ rfl (OV.fieldAddr (p := (b1, 0)) rfl rfl) ?_
      obtain ⟨x13, hr14, h⟩ := h
      refine GL.val ⟨_, _, rfl, rfl, hc12⟩ rfl (OV.load (p := ((b1, 0).1, (b1, 0).2 + 1)) rfl rfl hr14) ?_
      refine GL.val ⟨_, _, rfl, rfl, hc12⟩ rfl (OV.fieldAddr (p := (b3, 0)) rfl rfl) ?_
      obtain ⟨x15, hr16, h⟩ := h
      refine GL.val ⟨_, _, rfl, rfl, hc12⟩ rfl (OV.load (p := ((b3, 0).1, (b3, 0).2 + 1)) rfl rfl hr16) ?_
      refine GL.val ⟨_, _, rfl, rfl, hc12⟩ rfl (OV.sbin (a := x13) (b := x15) (v := .bool (x13 == x15)) rfl rfl rfl) ?_
      refine GL.val trivial rfl (OV.pickT (b := (x5 : Int) == x7) (v := .bool (x13 == x15)) rfl hc12 rfl) ?_
      exact GL.jump (fun _ _ h => h) (x13 == x15) h ⟨rfl, rfl, rfl, trivial⟩
    · skip
      replace h := And.right h hc12
      refine GL.skip ⟨_, rfl, .inl ⟨_, rfl, hc12⟩⟩ rfl ?_
      refine GL.skip ⟨_, rfl, .inl ⟨_, rfl, hc12⟩⟩ rfl ?_
      refine GL.skip ⟨_, rfl, .inl ⟨_, rfl, hc12⟩⟩ rfl ?_
      refine GL.skip ⟨_, rfl, .inl ⟨_, rfl, hc12⟩⟩ rfl ?_
      refine GL.skip ⟨_, rfl, .inl ⟨_, rfl, hc12⟩⟩ rfl ?_
      refine GL.val trivial rfl (OV.pickF (b := (x5 : Int) == x7) (v := .bool false) rfl hc12 rfl) ?_
      exact GL.jump (fun _ _ h => h) false h ⟨rfl, rfl, rfl, trivial⟩
  intro b9 H17 h
  replace h := hR11 b9 H17 h
  refine GL.val trivial rfl (OV.move (v := .bool b9) rfl) ?_
  obtain ⟨J19, h, hR20⟩ := h
  refine GL.cut (α := Bool) 6 J19 (fun b18 => [(23, .bool b18), (2, pv (some (b1, 0))), (3, pv (some (b3, 0)))]) ?_ ?_
  · rcases Bool.eq_false_or_eq_true b9 with hc21 | hc21
    · skip
      replace h := And.left h hc21
      refine GL.val ⟨_, _, rfl, rfl, hc21⟩ rfl (OV.fieldAddr (p := (b1, 0)) rfl rfl) ?_
      obtain ⟨x22, hr23, h⟩ := h
      refine GL.val ⟨_, _, rfl, rfl, hc21⟩ rfl (OV.load (p := ((b1, 0).1, (b1, 0).2 + 6)) rfl rfl hr23) ?_
      refine GL.val ⟨_, _, rfl, rfl, hc21⟩ rfl (OV.fieldAddr (p := (b3, 0)) rfl rfl) ?_
      obtain ⟨x24, hr25, h⟩ := h
      refine GL.val ⟨_, _, rfl, rfl, hc21⟩ rfl (OV.load (p := ((b3, 0).1, (b3, 0).2 + 6)) rfl rfl hr25) ?_
      refine GL.val ⟨_, _, rfl, rfl, hc21⟩ rfl (OV.eqlBool rfl rfl rfl) ?_
      refine GL.val trivial rfl (OV.pickT (b := b9) (v := .bool (x22 == x24)) rfl hc21 rfl) ?_
      exact GL.jump (fun _ _ h => h) (x22 == x24) h ⟨rfl, rfl, rfl, trivial⟩
    · skip
      replace h := And.right h hc21
      refine GL.skip ⟨_, rfl, .inl ⟨_, rfl, hc21⟩⟩ rfl ?_
      refine GL.skip ⟨_, rfl, .inl ⟨_, rfl, hc21⟩⟩ rfl ?_
      refine GL.skip ⟨_, rfl, .inl ⟨_, rfl, hc21⟩⟩ rfl ?_
      refine GL.skip ⟨_, rfl, .inl ⟨_, rfl, hc21⟩⟩ rfl ?_
      refine GL.skip ⟨_, rfl, .inl ⟨_, rfl, hc21⟩⟩ rfl ?_
      refine GL.val trivial rfl (OV.pickF (b := b9) (v := .bool false) rfl hc21 rfl) ?_
      exact GL.jump (fun _ _ h => h) false h ⟨rfl, rfl, rfl, trivial⟩
  intro b18 H26 h
  replace h := hR20 b18 H26 h
  refine GL.val trivial rfl (OV.move (v := .bool b18) rfl) ?_
  obtain ⟨J28, h, hR29⟩ := h
  refine GL.cut (α := Bool) 6 J28 (fun b27 => [(30, .bool b27)]) ?_ ?_
  · rcases Bool.eq_false_or_eq_true b18 with hc30 | hc30
    · skip
      replace h := And.left h hc30
      refine GL.val ⟨_, _, rfl, rfl, hc30⟩ rfl (OV.fieldAddr (p := (b1, 0)) rfl rfl) ?_
      obtain ⟨x31, hr32, h⟩ := h
      refine GL.val ⟨_, _, rfl, rfl, hc30⟩ rfl (OV.loadT (p := ((b1, 0).1, (b1, 0).2 + 2)) (cs := T_api_Value.c x31) rfl rfl rfl hr32) ?_
      refine GL.val ⟨_, _, rfl, rfl, hc30⟩ rfl (OV.fieldAddr (p := (b3, 0)) rfl rfl) ?_
      obtain ⟨x33, hr34, h⟩ := h
      refine GL.val ⟨_, _, rfl, rfl, hc30⟩ rfl (OV.loadT (p := ((b3, 0).1, (b3, 0).2 + 2)) (cs := T_api_Value.c x33) rfl rfl rfl hr34) ?_
      refine GL.call h ⟨_, _, rfl, rfl, hc30⟩ rfl ok_ref02_Same (vs := [.agg (T_api_Value.c x31).toArray, .agg (T_api_Value.c x33).toArray]) rfl ?_
      rintro _ H36 ⟨r35, rfl, h⟩
      refine GL.val trivial rfl (OV.pickT (b := b18) (v := .bool r35) rfl hc30 rfl) ?_
      exact GL.jump (fun _ _ h => h) r35 h ⟨rfl, trivial⟩
    · skip
      replace h := And.right h hc30
      refine GL.skip ⟨_, rfl, .inl ⟨_, rfl, hc30⟩⟩ rfl ?_
      refine GL.skip ⟨_, rfl, .inl ⟨_, rfl, hc30⟩⟩ rfl ?_
      refine GL.skip ⟨_, rfl, .inl ⟨_, rfl, hc30⟩⟩ rfl ?_
      refine GL.skip ⟨_, rfl, .inl ⟨_, rfl, hc30⟩⟩ rfl ?_
      refine GL.skip ⟨_, rfl, .inl ⟨_, rfl, hc30⟩⟩ rfl ?_
      refine GL.val trivial rfl (OV.pickF (b := b18) (v := .bool false) rfl hc30 rfl) ?_
      exact GL.jump (fun _ _ h => h) false h ⟨rfl, trivial⟩
  intro b27 H37 h
  replace h := hR29 b27 H37 h
  refine GL.val trivial rfl (OV.assign (v := .bool b27) rfl) ?_
  refine GL.nil ?_
  exact GC.ret (fun _ _ hf hs => post_tmp1 rfl rfl hf hs ⟨b27, rfl, h⟩)

def sh_code_Reader_Done (C : Ctx) (p_r : Option (Nat × Nat)) (K : Bool → Heap → Prop) (H : Heap) : Prop :=
  c_code_Reader_OK C p_r (fun r1 H2 =>
 jn (α := Bool) (fun b3 H9 =>
 K b3 H9)
 (fun J4 => ift r1
 (c_code_Reader_Left C p_r (fun r7 H8 =>
 J4 ((r7 : Int) == 0) H8) H2)
 (J4 false H2))) H

theorem ad_code_Reader_Done (C : Ctx) (p_r : Option (Nat × Nat)) (K : Bool → Heap → Prop) (H : Heap) (h : sh_code_Reader_Done C p_r K H) : c_code_Reader_Done C p_r K H := by
  refine Spec.enter Tryd.func32 rfl Tryd.ntmps32 rfl ?_
  refine GC.sub [(0, pv p_r)] ⟨rfl, trivial⟩ ?_
  refine GC.seq ?_
  refine GC.region ?_
  refine GL.val trivial rfl (OV.assign (v := .bool false) rfl) ?_
  refine GL.nil ?_
  refine GC.seq ?_
  refine GC.region ?_
  refine GL.val trivial rfl (OV.move (v := pv p_r) rfl) ?_
  refine GL.call h trivial rfl ok_code_Reader_OK (vs := [pv p_r]) rfl ?_
  rintro _ H2 ⟨r1, rfl, h⟩
  refine GL.val trivial rfl (OV.move (v := .bool r1) rfl) ?_
  obtain ⟨J4, h, hR5⟩ := h
  refine GL.cut (α := Bool) 4 J4 (fun b3 => [(9, .bool b3)]) ?_ ?_
  · rcases Bool.eq_false_or_eq_true r1 with hc6 | hc6
    · skip
      replace h := And.left h hc6
      refine GL.val ⟨_, _, rfl, rfl, hc6⟩ rfl (OV.move (v := pv p_r) rfl) ?_
      refine GL.call h ⟨_, _, rfl, rfl, hc6⟩ rfl ok_code_Reader_Left (vs := [pv p_r]) rfl ?_
      rintro _ H8 ⟨r7, rfl, h⟩
      refine GL.val ⟨_, _, rfl, rfl, hc6⟩ rfl (OV.ibin (v := .bool ((r7 : Int) == 0)) rfl rfl rfl) ?_
      refine GL.val trivial rfl (OV.pickT (b := r1) (v := .bool ((r7 : Int) == 0)) rfl hc6 rfl) ?_
      exact GL.jump (fun _ _ h => h) ((r7 : Int) == 0) h ⟨rfl, trivial⟩
    · skip
      replace h := And.right h hc6
      refine GL.skip ⟨_, rfl, .inl ⟨_, rfl, hc6⟩⟩ rfl ?_
      refine GL.skip ⟨_, rfl, .inl ⟨_, rfl, hc6⟩⟩ rfl ?_
      refine GL.skip ⟨_, rfl, .inl ⟨_, rfl, hc6⟩⟩ rfl ?_
      refine GL.val trivial rfl (OV.pickF (b := r1) (v := .bool false) rfl hc6 rfl) ?_
      exact GL.jump (fun _ _ h => h) false h ⟨rfl, trivial⟩
  intro b3 H9 h
  replace h := hR5 b3 H9 h
  refine GL.val trivial rfl (OV.assign (v := .bool b3) rfl) ?_
  refine GL.nil ?_
  exact GC.ret (fun _ _ hf hs => post_tmp1 rfl rfl hf hs ⟨b3, rfl, h⟩)

def sh_code_Reader_Num (C : Ctx) (p_r : Option (Nat × Nat)) (K : Int → Heap → Prop) (H : Heap) : Prop :=
  ift (Option.isNone p_r)
 (K 0 H)
 (c_code_Reader_next C p_r (fun r2 H3 =>
 jn (α := Int) (fun x5 H6 =>
 c_code_Reader_flip C p_r (decide ((r2 : Int) < 128)) (fun H9 =>
 c_code_Reader_number C p_r (w .i64 ((w .i64 x5) - 128)) 8 (fun r10 H11 =>
 c_code_Reader_flip C p_r (decide ((r2 : Int) < 128)) (fun H12 =>
 c_code_Reader_ask C p_r (decide ((r10 : Int) ≤ 9223372036854775807)) (fun r13 H14 =>
 ift (!r13)
 (K 0 H14)
 (ift (decide ((r2 : Int) < 128))
 (K (bXor .i64 (-1) (w .i64 r10)) H14)
 (K (w .i64 r10) H14))) H12) H11) H9) H6)
 (fun J4 => ift (decide ((r2 : Int) < 128))
 (J4 (bXor .u8 (255) r2) H3)
 (J4 r2 H3))) H)

theorem ad_code_Reader_Num (C : Ctx) (p_r : Option (Nat × Nat)) (K : Int → Heap → Prop) (H : Heap) (h : sh_code_Reader_Num C p_r K H) : c_code_Reader_Num C p_r K H := by
  refine Spec.enter Tryd.func33 rfl Tryd.ntmps33 rfl ?_
  refine GC.sub [(0, pv p_r)] ⟨rfl, trivial⟩ ?_
  refine GC.seq ?_
  refine GC.region ?_
  refine GL.val trivial rfl (OV.assign (v := .int .i64 0) rfl) ?_
  refine GL.nil ?_
  refine GC.seq ?_
  refine GC.seq ?_
  refine GC.region ?_
  refine GL.val trivial rfl (OV.move (v := pv p_r) rfl) ?_
  refine GL.val trivial rfl (OV.eqlNil (p := p_r) rfl rfl rfl) ?_
  refine GL.nil ?_
  refine GC.cond (b := Option.isNone p_r) rfl (fun hc1 => ?_) (fun hc1 => ?_)
  · replace h := And.left h hc1
    refine GC.seq ?_
    refine GC.region ?_
    refine GL.val trivial rfl (OV.assign (v := .int .i64 0) rfl) ?_
    refine GL.nil ?_
    exact GC.ret (fun _ _ hf hs => post_tmp1 rfl rfl hf hs ⟨0, rfl, h⟩)
  · replace h := And.right h hc1
    refine GC.skip ?_
    refine GC.seq ?_
    refine GC.region ?_
    refine GL.val trivial rfl (OV.move (v := pv p_r) rfl) ?_
    refine GL.call h trivial rfl ok_code_Reader_next (vs := [pv p_r]) rfl ?_
    rintro _ H3 ⟨r2, rfl, h⟩
    refine GL.val trivial rfl (OV.assign (v := .int .u8 r2) rfl) ?_
    refine GL.nil ?_
    refine GC.seq ?_
    refine GC.region ?_
    refine GL.val trivial rfl (OV.move (v := .int .u8 r2) rfl) ?_
    refine GL.val trivial rfl (OV.ibin (v := .bool (decide ((r2 : Int) < 128))) rfl rfl rfl) ?_
    refine GL.val trivial rfl (OV.assign (v := .bool (decide ((r2 : Int) < 128))) rfl) ?_
    refine GL.nil ?_
    obtain ⟨J4, h, hR7⟩ := h
    refine GC.join (α := Int) J4 (fun x5 => [(3, .int .u8 x5), (0, pv p_r), (4, .bool (decide ((r2 : Int) < 128)))]) ?_ ?_
    · skip
      refine GC.seq ?_
      refine GC.region ?_
      refine GL.val trivial rfl (OV.move (v := .bool (decide ((r2 : Int) < 128))) rfl) ?_
      refine GL.nil ?_
      refine GC.cond (b := decide ((r2 : Int) < 128)) rfl (fun hc8 => ?_) (fun hc8 => ?_)
      · replace h := And.left h hc8
        refine GC.region ?_
        refine GL.val trivial rfl (OV.move (v := .int .u8 r2) rfl) ?_
        refine GL.val trivial rfl (OV.iun (v := .int .u8 (bXor .u8 (255) r2)) rfl rfl) ?_
        refine GL.val trivial rfl (OV.assign (v := .int .u8 (bXor .u8 (255) r2)) rfl) ?_
        exact GL.jump (fun _ _ h => h) (bXor .u8 (255) r2) h ⟨rfl, rfl, rfl, trivial⟩
      · replace h := And.right h hc8
        exact GC.jump (fun _ _ h => h) r2 h ⟨rfl, rfl, rfl, trivial⟩
    · intro x5 H6 h
      replace h := hR7 x5 H6 h
      refine GC.seq ?_
      refine GC.region ?_
      refine GL.val trivial rfl (OV.move (v := pv p_r) rfl) ?_
      refine GL.val trivial rfl (OV.move (v := .bool (decide ((r2 : Int) < 128))) rfl) ?_
      refine GL.call h trivial rfl ok_code_Reader_flip (vs := [pv p_r, .bool (decide ((r2 : Int) < 128))]) rfl ?_
      rintro _ H9 ⟨rfl, h⟩
      refine GL.nil ?_
      refine GC.seq ?_
      refine GC.region ?_
      refine GL.val trivial rfl (OV.move (v := pv p_r) rfl) ?_
      refine GL.val trivial rfl (OV.move (v := .int .u8 x5) rfl) ?_
      refine GL.val trivial rfl (OV.convInt rfl rfl rfl) ?_
      refine GL.val trivial rfl (OV.ibin (v := .int .i64 (w .i64 ((w .i64 x5) - 128))) rfl rfl rfl) ?_
      refine GL.call h trivial rfl ok_code_Reader_number (vs := [pv p_r, .int .i64 (w .i64 ((w .i64 x5) - 128)), .int .i64 8]) rfl ?_
      rintro _ H11 ⟨r10, rfl, h⟩
      refine GL.val trivial rfl (OV.assign (v := .int .u64 r10) rfl) ?_
      refine GL.nil ?_
      refine GC.seq ?_
      refine GC.region ?_
      refine GL.val trivial rfl (OV.move (v := pv p_r) rfl) ?_
      refine GL.val trivial rfl (OV.move (v := .bool (decide ((r2 : Int) < 128))) rfl) ?_
      refine GL.call h trivial rfl ok_code_Reader_flip (vs := [pv p_r, .bool (decide ((r2 : Int) < 128))]) rfl ?_
      rintro _ H12 ⟨rfl, h⟩
      refine GL.nil ?_
      refine GC.seq ?_
      refine GC.block ?_
      refine GC.seq ?_
      refine GC.region ?_
      refine GL.val trivial rfl (OV.move (v := pv p_r) rfl) ?_
      refine GL.val trivial rfl (OV.move (v := .int .u64 r10) rfl) ?_
      refine GL.val trivial rfl (OV.ibin (v := .bool (decide ((r10 : Int) ≤ 9223372036854775807))) rfl rfl rfl) ?_
      refine GL.call h trivial rfl ok_code_Reader_ask (vs := [pv p_r, .bool (decide ((r10 : Int) ≤ 9223372036854775807))]) rfl ?_
      rintro _ H14 ⟨r13, rfl, h⟩
      refine GL.val trivial rfl (OV.not rfl) ?_
      refine GL.val trivial rfl (OV.assign (v := .bool (!r13)) rfl) ?_
      refine GL.nil ?_
      refine GC.cond (b := !r13) rfl (fun hc15 => ?_) (fun hc15 => ?_)
      · replace h := And.left h hc15
        refine GC.seq ?_
        refine GC.region ?_
        refine GL.val trivial rfl (OV.assign (v := .int .i64 0) rfl) ?_
        refine GL.nil ?_
        exact GC.ret (fun _ _ hf hs => post_tmp1 rfl rfl hf hs ⟨0, rfl, h⟩)
      · replace h := And.right h hc15
        refine GC.seq ?_
        refine GC.region ?_
        refine GL.val trivial rfl (OV.move (v := .bool (decide ((r2 : Int) < 128))) rfl) ?_
        refine GL.val trivial rfl (OV.assign (v := .bool (decide ((r2 : Int) < 128))) rfl) ?_
        refine GL.nil ?_
        refine GC.cond (b := decide ((r2 : Int) < 128)) rfl (fun hc16 => ?_) (fun hc16 => ?_)
        · replace h := And.left h hc16
          refine GC.seq ?_
          refine GC.region ?_
          refine GL.val trivial rfl (OV.move (v := .int .u64 r10) rfl) ?_
          refine GL.val trivial rfl (OV.convInt rfl rfl rfl) ?_
          refine GL.val trivial rfl (OV.iun (v := .int .i64 (bXor .i64 (-1) (w .i64 r10))) rfl rfl) ?_
          refine GL.val trivial rfl (OV.assign (v := .int .i64 (bXor .i64 (-1) (w .i64 r10))) rfl) ?_
          refine GL.nil ?_
          exact GC.ret (fun _ _ hf hs => post_tmp1 rfl rfl hf hs ⟨(bXor .i64 (-1) (w .i64 r10)), rfl, h⟩)
        · replace h := And.right h hc16
          refine GC.skip_to (fun _ _ h => h) ?_
          refine GC.seq ?_
          refine GC.region ?_
          refine GL.val trivial rfl (OV.move (v := .int .u64 r10) rfl) ?_
          refine GL.val trivial rfl (OV.convInt rfl rfl rfl) ?_
          refine GL.val trivial rfl (OV.assign (v := .int .i64 (w .i64 r10)) rfl) ?_
          refine GL.nil ?_
          exact GC.ret (fun _ _ hf hs => post_tmp1 rfl rfl hf hs ⟨(w .i64 r10), rfl, h⟩)

def sh_code_Reader_Str (C : Ctx) (p_r : Option (Nat × Nat)) (p_most : Int) (K : Str → Heap → Prop) (H : Heap) : Prop :=
  jn (α := Unit) (fun x2 H3 =>
 K [] H3)
 (fun J1 => lp (α := Sl) Sl.nil H (fun x5 J6 H7 =>
 jn (α := Bool) (fun b8 H14 =>
 ift b8
 (c_code_Reader_next C p_r (fun r16 H17 =>
 jn (α := Unit) (fun x19 H20 =>
 apd ([.int .u8 0]) 1 x5 ([.int .u8 r16]) 1 (fun r33 H34 =>
 J6 r33 H34) H20)
 (fun J18 => ift ((r16 : Int) == 0)
 (c_code_Reader_next C p_r (fun r23 H24 =>
 c_code_Reader_ask C p_r (((r23 : Int) == 0) || ((r23 : Int) == 255)) (fun r26 H27 =>
 ift (!r26)
 (J1 () H27)
 (ift ((r23 : Int) == 0)
 (b2s x5 (fun t30 =>
 K t30 H27) H27)
 (J18 () H27))) H24) H17)
 (J18 () H17))) H14)
 (J1 () H14))
 (fun J9 => ift (!(Option.isNone p_r))
 (c_code_Reader_ask C p_r (decide (((Sl.len x5 : Int) : Int) ≤ p_most)) (fun r12 H13 =>
 J9 r12 H13) H7)
 (J9 false H7))))

theorem ad_code_Reader_Str (C : Ctx) (p_r : Option (Nat × Nat)) (p_most : Int) (K : Str → Heap → Prop) (H : Heap) (h : sh_code_Reader_Str C p_r p_most K H) : c_code_Reader_Str C p_r p_most K H := by
  refine Spec.enter Tryd.func34 rfl Tryd.ntmps34 rfl ?_
  refine GC.sub [(0, pv p_r), (1, .int .i64 p_most)] ⟨rfl, rfl, trivial⟩ ?_
  refine GC.seq ?_
  refine GC.region ?_
  refine GL.val trivial rfl (OV.assign (v := sv []) rfl) ?_
  refine GL.nil ?_
  refine GC.seq ?_
  refine GC.region ?_
  refine GL.val trivial rfl (OV.assign (v := slv Sl.nil) rfl) ?_
  refine GL.nil ?_
  obtain ⟨J1, h, hR4⟩ := h
  refine GC.join (α := Unit) J1 (fun _ => []) ?_ ?_
  · skip
    refine GC.block ?_
    refine GC.loop (α := Sl) h (fun x5 => [(5, slv x5), (0, pv p_r), (1, .int .i64 p_most)]) ⟨rfl, rfl, rfl, trivial⟩ ?_
    intro x5 H7 J6 h
    refine GC.seq ?_
    refine GC.seq ?_
    refine GC.region ?_
    refine GL.val trivial rfl (OV.move (v := pv p_r) rfl) ?_
    refine GL.val trivial rfl (OV.neqNil (p := p_r) rfl rfl rfl) ?_
    refine GL.val trivial rfl (OV.move (v := .bool (!(Option.isNone p_r))) rfl) ?_
    obtain ⟨J9, h, hR10⟩ := h
    refine GL.cut (α := Bool) 7 J9 (fun b8 => [(17, .bool b8), (0, pv p_r), (1, .int .i64 p_most), (5, slv x5)]) ?_ ?_
    · rcases Bool.eq_false_or_eq_true (!(Option.isNone p_r)) with hc11 | hc11
      · skip
        replace h := And.left h hc11
        refine GL.val ⟨_, _, rfl, rfl, hc11⟩ rfl (OV.move (v := pv p_r) rfl) ?_
        refine GL.val ⟨_, _, rfl, rfl, hc11⟩ rfl (OV.move (v := slv x5) rfl) ?_
        refine GL.val ⟨_, _, rfl, rfl, hc11⟩ rfl (OV.lenSl (s := x5) rfl rfl) ?_
        refine GL.val ⟨_, _, rfl, rfl, hc11⟩ rfl (OV.move (v := .int .i64 p_most) rfl) ?_
        refine GL.val ⟨_, _, rfl, rfl, hc11⟩ rfl (OV.ibin (v := .bool (decide (((Sl.len x5 : Int) : Int) ≤ p_most))) rfl rfl rfl) ?_
        refine GL.call h ⟨_, _, rfl, rfl, hc11⟩ rfl ok_code_Reader_ask (vs := [pv p_r, .bool (decide (((Sl.len x5 : Int) : Int) ≤ p_most))]) rfl ?_
        rintro _ H13 ⟨r12, rfl, h⟩
        refine GL.val trivial rfl (OV.pickT (b := !(Option.isNone p_r)) (v := .bool r12) rfl hc11 rfl) ?_
        exact GL.jump (fun _ _ h => h) r12 h ⟨rfl, rfl, rfl, rfl, trivial⟩
      · skip
        replace h := And.right h hc11
        refine GL.skip ⟨_, rfl, .inl ⟨_, rfl, hc11⟩⟩ rfl ?_
        refine GL.skip ⟨_, rfl, .inl ⟨_, rfl, hc11⟩⟩ rfl ?_
        refine GL.skip ⟨_, rfl, .inl ⟨_, rfl, hc11⟩⟩ rfl ?_
        refine GL.skip ⟨_, rfl, .inl ⟨_, rfl, hc11⟩⟩ rfl ?_
        refine GL.skip ⟨_, rfl, .inl ⟨_, rfl, hc11⟩⟩ rfl ?_
        refine GL.skip ⟨_, rfl, .inl ⟨_, rfl, hc11⟩⟩ rfl ?_
        refine GL.val trivial rfl (OV.pickF (b := !(Option.isNone p_r)) (v := .bool false) rfl hc11 rfl) ?_
        exact GL.jump (fun _ _ h => h) false h ⟨rfl, rfl, rfl, rfl, trivial⟩
    intro b8 H14 h
    replace h := hR10 b8 H14 h
    refine GL.nil ?_
    refine GC.cond (b := b8) rfl (fun hc15 => ?_) (fun hc15 => ?_)
    · replace h := And.left h hc15
      refine GC.skip ?_
      refine GC.block ?_
      refine GC.seq ?_
      refine GC.region ?_
      refine GL.val trivial rfl (OV.move (v := pv p_r) rfl) ?_
      refine GL.call h trivial rfl ok_code_Reader_next (vs := [pv p_r]) rfl ?_
      rintro _ H17 ⟨r16, rfl, h⟩
      refine GL.val trivial rfl (OV.assign (v := .int .u8 r16) rfl) ?_
      refine GL.nil ?_
      obtain ⟨J18, h, hR21⟩ := h
      refine GC.join (α := Unit) J18 (fun _ => [(0, pv p_r), (1, .int .i64 p_most), (5, slv x5), (6, .int .u8 r16)]) ?_ ?_
      · skip
        refine GC.seq ?_
        refine GC.region ?_
        refine GL.val trivial rfl (OV.move (v := .int .u8 r16) rfl) ?_
        refine GL.val trivial rfl (OV.ibin (v := .bool ((r16 : Int) == 0)) rfl rfl rfl) ?_
        refine GL.nil ?_
        refine GC.cond (b := (r16 : Int) == 0) rfl (fun hc22 => ?_) (fun hc22 => ?_)
        · replace h := And.left h hc22
          refine GC.seq ?_
          refine GC.region ?_
          refine GL.val trivial rfl (OV.move (v := pv p_r) rfl) ?_
          refine GL.call h trivial rfl ok_code_Reader_next (vs := [pv p_r]) rfl ?_
          rintro _ H24 ⟨r23, rfl, h⟩
          refine GL.val trivial rfl (OV.assign (v := .int .u8 r23) rfl) ?_
          refine GL.nil ?_
          refine GC.seq ?_
          refine GC.seq ?_
          refine GC.region ?_
          refine GL.val trivial rfl (OV.move (v := pv p_r) rfl) ?_
          refine GL.val trivial rfl (OV.move (v := .int .u8 r23) rfl) ?_
          refine GL.val trivial rfl (OV.ibin (v := .bool ((r23 : Int) == 0)) rfl rfl rfl) ?_
          refine GL.val trivial rfl (OV.move (v := .bool ((r23 : Int) == 0)) rfl) ?_
          refine GL.cut0 3 [(30, .bool (((r23 : Int) == 0) || ((r23 : Int) == 255))), (0, pv p_r), (1, .int .i64 p_most), (5, slv x5), (6, .int .u8 r16), (7, .int .u8 r23), (24, pv p_r)] ?_ ?_
          · rcases Bool.eq_false_or_eq_true ((r23 : Int) == 0) with hc25 | hc25
            · skip
              refine GL.skip ⟨_, rfl, .inl ⟨_, rfl, hc25⟩⟩ rfl ?_
              refine GL.skip ⟨_, rfl, .inl ⟨_, rfl, hc25⟩⟩ rfl ?_
              refine GL.val trivial rfl (OV.pickT (b := (r23 : Int) == 0) (v := .bool true) rfl hc25 rfl) ?_
              exact GL.jump0 (fun _ _ h => h) () rfl ⟨(by rw [hc25]; rfl), rfl, rfl, rfl, rfl, rfl, rfl, trivial⟩
            · skip
              refine GL.val ⟨_, _, rfl, rfl, hc25⟩ rfl (OV.move (v := .int .u8 r23) rfl) ?_
              refine GL.val ⟨_, _, rfl, rfl, hc25⟩ rfl (OV.ibin (v := .bool ((r23 : Int) == 255)) rfl rfl rfl) ?_
              refine GL.val trivial rfl (OV.pickF (b := (r23 : Int) == 0) (v := .bool ((r23 : Int) == 255)) rfl hc25 rfl) ?_
              exact GL.jump0 (fun _ _ h => h) () rfl ⟨(by rw [hc25]; rfl), rfl, rfl, rfl, rfl, rfl, rfl, trivial⟩
          refine GL.call h trivial rfl ok_code_Reader_ask (vs := [pv p_r, .bool (((r23 : Int) == 0) || ((r23 : Int) == 255))]) rfl ?_
          rintro _ H27 ⟨r26, rfl, h⟩
          refine GL.val trivial rfl (OV.not rfl) ?_
          refine GL.nil ?_
          refine GC.cond (b := !r26) rfl (fun hc28 => ?_) (fun hc28 => ?_)
          · replace h := And.left h hc28
            exact GC.exit_jump (fun _ _ h => h) () h trivial
          · replace h := And.right h hc28
            refine GC.skip ?_
            refine GC.seq ?_
            refine GC.region ?_
            refine GL.val trivial rfl (OV.move (v := .int .u8 r23) rfl) ?_
            refine GL.val trivial rfl (OV.ibin (v := .bool ((r23 : Int) == 0)) rfl rfl rfl) ?_
            refine GL.nil ?_
            refine GC.cond (b := (r23 : Int) == 0) rfl (fun hc29 => ?_) (fun hc29 => ?_)
            · replace h := And.left h hc29
              refine GC.seq ?_
              refine GC.region ?_
              refine GL.val trivial rfl (OV.move (v := slv x5) rfl) ?_
              obtain ⟨t30, h31, h32, h⟩ := h
              refine GL.val trivial rfl (OV.b2s (b := x5) (s := t30) h31 h32 rfl rfl rfl rfl) ?_
              refine GL.val trivial rfl (OV.assign (v := sv t30) rfl) ?_
              refine GL.nil ?_
              exact GC.ret (fun _ _ hf hs => post_tmp1 rfl rfl hf hs ⟨t30, rfl, h⟩)
            · replace h := And.right h hc29
              exact GC.jump (fun _ _ h => h) () h ⟨rfl, rfl, rfl, rfl, trivial⟩
        · replace h := And.right h hc22
          exact GC.jump (fun _ _ h => h) () h ⟨rfl, rfl, rfl, rfl, trivial⟩
      · intro x19 H20 h
        replace h := hR21 x19 H20 h
        refine GC.region ?_
        refine GL.val trivial rfl (OV.move (v := slv x5) rfl) ?_
        refine GL.val trivial rfl (OV.move (v := .int .u8 r16) rfl) ?_
        refine GL.appendLit (s := x5) (ys := [.int .u8 r16]) (zc := [.int .u8 0]) (bytes := 1) h trivial rfl (fun _ => trivial) rfl (fun _ => rfl) (fun _ => rfl) (vs := [(0, .int .u8 r16)]) rfl ⟨5, fun _ => by kernel_rfl⟩ ⟨⟨_, _, _, rfl, rfl, rfl, rfl, rfl, rfl⟩⟩ rfl rfl ?_
        intro _ r33 H34 h
        refine GL.val trivial rfl (OV.assign (v := slv r33) rfl) ?_
        exact GL.jump (fun _ _ h => h) r33 h ⟨rfl, rfl, rfl, trivial⟩
    · replace h := And.right h hc15
      exact GC.exit_jump (fun _ _ h => h) () h trivial
  · intro x2 H3 h
    replace h := hR4 x2 H3 h
    refine GC.seq ?_
    refine GC.region ?_
    refine GL.val trivial rfl (OV.assign (v := sv []) rfl) ?_
    refine GL.nil ?_
    exact GC.ret (fun _ _ hf hs => post_tmp1 rfl rfl hf hs ⟨[], rfl, h⟩)

def sh_ref02_Same (C : Ctx) (p_a : T_api_Value) (p_b : T_api_Value) (K : Bool → Heap → Prop) (H : Heap) : Prop :=
  nw (T_api_Value.c p_a) (fun b1 H2 =>
 nw (T_api_Value.c p_b) (fun b3 H4 =>
 ldI H4 .u8 ((b1, 0).1, (b1, 0).2 + 0) fun x5 =>
 ldI H4 .u8 ((b3, 0).1, (b3, 0).2 + 0) fun x7 =>
 jn (α := Bool) (fun b9 H17 =>
 jn (α := Bool) (fun b18 H26 =>
 jn (α := Bool) (fun b27 H37 =>
 K b27 H37)
 (fun J28 => ift b18
 (ldL H26 ((b1, 0).1, (b1, 0).2 + 3) fun x31 =>
 ldL H26 ((b3, 0).1, (b3, 0).2 + 3) fun x33 =>
 c_ref02_SameRow C x31 x33 (fun r35 H36 =>
 J28 r35 H36) H26)
 (J28 false H26)))
 (fun J19 => ift b9
 (ldS H17 ((b1, 0).1, (b1, 0).2 + 2) fun x22 =>
 ldS H17 ((b3, 0).1, (b3, 0).2 + 2) fun x24 =>
 J19 (x22 == x24) H17)
 (J19 false H17)))
 (fun J10 => ift ((x5 : Int) == x7)
 (ldI H4 .i64 ((b1, 0).1, (b1, 0).2 + 1) fun x13 =>
 ldI H4 .i64 ((b3, 0).1, (b3, 0).2 + 1) fun x15 =>
 J10 ((x13 : Int) == x15) H4)
 (J10 false H4))) H2) H

theorem ad_ref02_Same (C : Ctx) (p_a : T_api_Value) (p_b : T_api_Value) (K : Bool → Heap → Prop) (H : Heap) (h : sh_ref02_Same C p_a p_b K H) : c_ref02_Same C p_a p_b K H := by
  refine Spec.enter Tryd.func37 rfl Tryd.ntmps37 rfl ?_
  refine GC.sub [(0, .agg (T_api_Value.c p_a).toArray), (1, .agg (T_api_Value.c p_b).toArray)] ⟨rfl, rfl, trivial⟩ ?_
  refine GC.seq ?_
  refine GC.region ?_
  refine GL.box (v := .agg (T_api_Value.c p_a).toArray) (cs := T_api_Value.c p_a) h trivial rfl rfl rfl ?_
  intro b1 H2 h
  refine GL.box (v := .agg (T_api_Value.c p_b).toArray) (cs := T_api_Value.c p_b) h trivial rfl rfl rfl ?_
  intro b3 H4 h
  refine GL.val trivial rfl (OV.assign (v := .bool false) rfl) ?_
  refine GL.nil ?_
  refine GC.seq ?_
  refine GC.region ?_
  refine GL.val trivial rfl (OV.fieldAddr (p := (b1, 0)) rfl rfl) ?_
  obtain ⟨x5, hr6, h⟩ := h
  refine GL.val trivial rfl (OV.load (p := ((b1, 0).1, (b1, 0).2 + 0)) rfl rfl hr6) ?_
  refine GL.val trivial rfl (OV.fieldAddr (p := (b3, 0)) rfl rfl) ?_
  obtain ⟨x7, hr8, h⟩ := h
  refine GL.val trivial rfl (OV.load (p := ((b3, 0).1, (b3, 0).2 + 0)) rfl rfl hr8) ?_
  refine GL.val trivial rfl (OV.ibin (v := .bool ((x5 : Int) == x7)) rfl rfl rfl) ?_
  refine GL.val trivial rfl (OV.move (v := .bool ((x5 : Int) == x7)) rfl) ?_
  obtain ⟨J10, h, hR11⟩ := h
  refine GL.cut (α := Bool) 6 J10 (fun b9 => [(16, .bool b9), (2, pv (some (b1, 0))), (3, pv (some (b3, 0)))]) ?_ ?_
  · rcases Bool.eq_false_or_eq_true ((x5 : Int) == x7) with hc12 | hc12
    · skip
      replace h := And.left h hc12
      refine GL.val ⟨_, _, rfl, rfl, hc12⟩ rfl (OV.fieldAddr (p := (b1, 0)) rfl rfl) ?_
      obtain ⟨x13, hr14, h⟩ := h
      refine GL.val ⟨_, _, rfl, rfl, hc12⟩ rfl (OV.load (p := ((b1, 0).1, (b1, 0).2 + 1)) rfl rfl hr14) ?_
      refine GL.val ⟨_, _, rfl, rfl, hc12⟩ rfl (OV.fieldAddr (p := (b3, 0)) rfl rfl) ?_
      obtain ⟨x15, hr16, h⟩ := h
      refine GL.val ⟨_, _, rfl, rfl, hc12⟩ rfl (OV.load (p := ((b3, 0).1, (b3, 0).2 + 1)) rfl rfl hr16) ?_
      refine GL.val ⟨_, _, rfl, rfl, hc12⟩ rfl (OV.ibin (v := .bool ((x13 : Int) == x15)) rfl rfl rfl) ?_
      refine GL.val trivial rfl (OV.pickT (b := (x5 : Int) == x7) (v := .bool ((x13 : Int) == x15)) rfl hc12 rfl) ?_
      exact GL.jump (fun _ _ h => h) ((x13 : Int) == x15) h ⟨rfl, rfl, rfl, trivial⟩
    · skip
      replace h := And.right h hc12
      refine GL.skip ⟨_, rfl, .inl ⟨_, rfl, hc12⟩⟩ rfl ?_
      refine GL.skip ⟨_, rfl, .inl ⟨_, rfl, hc12⟩⟩ rfl ?_
      refine GL.skip ⟨_, rfl, .inl ⟨_, rfl, hc12⟩⟩ rfl ?_
      refine GL.skip ⟨_, rfl, .inl ⟨_, rfl, hc12⟩⟩ rfl ?_
      refine GL.skip ⟨_, rfl, .inl ⟨_, rfl, hc12⟩⟩ rfl ?_
      refine GL.val trivial rfl (OV.pickF (b := (x5 : Int) == x7) (v := .bool false) rfl hc12 rfl) ?_
      exact GL.jump (fun _ _ h => h) false h ⟨rfl, rfl, rfl, trivial⟩
  intro b9 H17 h
  replace h := hR11 b9 H17 h
  refine GL.val trivial rfl (OV.move (v := .bool b9) rfl) ?_
  obtain ⟨J19, h, hR20⟩ := h
  refine GL.cut (α := Bool) 6 J19 (fun b18 => [(23, .bool b18), (2, pv (some (b1, 0))), (3, pv (some (b3, 0)))]) ?_ ?_
  · rcases Bool.eq_false_or_eq_true b9 with hc21 | hc21
    · skip
      replace h := And.left h hc21
      refine GL.val ⟨_, _, rfl, rfl, hc21⟩ rfl (OV.fieldAddr (p := (b1, 0)) rfl rfl) ?_
      obtain ⟨x22, hr23, h⟩ := h
      refine GL.val ⟨_, _, rfl, rfl, hc21⟩ rfl (OV.load (p := ((b1, 0).1, (b1, 0).2 + 2)) rfl rfl hr23) ?_
      refine GL.val ⟨_, _, rfl, rfl, hc21⟩ rfl (OV.fieldAddr (p := (b3, 0)) rfl rfl) ?_
      obtain ⟨x24, hr25, h⟩ := h
      refine GL.val ⟨_, _, rfl, rfl, hc21⟩ rfl (OV.load (p := ((b3, 0).1, (b3, 0).2 + 2)) rfl rfl hr25) ?_
      refine GL.val ⟨_, _, rfl, rfl, hc21⟩ rfl (OV.sbin (a := x22) (b := x24) (v := .bool (x22 == x24)) rfl rfl rfl) ?_
      refine GL.val trivial rfl (OV.pickT (b := b9) (v := .bool (x22 == x24)) rfl hc21 rfl) ?_
      exact GL.jump (fun _ _ h => h) (x22 == x24) h ⟨rfl, rfl, rfl, trivial⟩
    · skip
      replace h := And.right h hc21
      refine GL.skip ⟨_, rfl, .inl ⟨_, rfl, hc21⟩⟩ rfl ?_
      refine GL.skip ⟨_, rfl, .inl ⟨_, rfl, hc21⟩⟩ rfl ?_
      refine GL.skip ⟨_, rfl, .inl ⟨_, rfl, hc21⟩⟩ rfl ?_
      refine GL.skip ⟨_, rfl, .inl ⟨_, rfl, hc21⟩⟩ rfl ?_
      refine GL.skip ⟨_, rfl, .inl ⟨_, rfl, hc21⟩⟩ rfl ?_
      refine GL.val trivial rfl (OV.pickF (b := b9) (v := .bool false) rfl hc21 rfl) ?_
      exact GL.jump (fun _ _ h => h) false h ⟨rfl, rfl, rfl, trivial⟩
  intro b18 H26 h
  replace h := hR20 b18 H26 h
  refine GL.val trivial rfl (OV.move (v := .bool b18) rfl) ?_
  obtain ⟨J28, h, hR29⟩ := h
  refine GL.cut (α := Bool) 6 J28 (fun b27 => [(30, .bool b27)]) ?_ ?_
  · rcases Bool.eq_false_or_eq_true b18 with hc30 | hc30
    · skip
      replace h := And.left h hc30
      refine GL.val ⟨_, _, rfl, rfl, hc30⟩ rfl (OV.fieldAddr (p := (b1, 0)) rfl rfl) ?_
      obtain ⟨x31, hr32, h⟩ := h
      refine GL.val ⟨_, _, rfl, rfl, hc30⟩ rfl (OV.load (p := ((b1, 0).1, (b1, 0).2 + 3)) rfl rfl hr32) ?_
      refine GL.val ⟨_, _, rfl, rfl, hc30⟩ rfl (OV.fieldAddr (p := (b3, 0)) rfl rfl) ?_
      obtain ⟨x33, hr34, h⟩ := h
      refine GL.val ⟨_, _, rfl, rfl, hc30⟩ rfl (OV.load (p := ((b3, 0).1, (b3, 0).2 + 3)) rfl rfl hr34) ?_
      refine GL.call h ⟨_, _, rfl, rfl, hc30⟩ rfl ok_ref02_SameRow (vs := [slv x31, slv x33]) rfl ?_
      rintro _ H36 ⟨r35, rfl, h⟩
      refine GL.val trivial rfl (OV.pickT (b := b18) (v := .bool r35) rfl hc30 rfl) ?_
      exact GL.jump (fun _ _ h => h) r35 h ⟨rfl, trivial⟩
    · skip
      replace h := And.right h hc30
      refine GL.skip ⟨_, rfl, .inl ⟨_, rfl, hc30⟩⟩ rfl ?_
      refine GL.skip ⟨_, rfl, .inl ⟨_, rfl, hc30⟩⟩ rfl ?_
      refine GL.skip ⟨_, rfl, .inl ⟨_, rfl, hc30⟩⟩ rfl ?_
      refine GL.skip ⟨_, rfl, .inl ⟨_, rfl, hc30⟩⟩ rfl ?_
      refine GL.skip ⟨_, rfl, .inl ⟨_, rfl, hc30⟩⟩ rfl ?_
      refine GL.val trivial rfl (OV.pickF (b := b18) (v := .bool false) rfl hc30 rfl) ?_
      exact GL.jump (fun _ _ h => h) false h ⟨rfl, trivial⟩
  intro b27 H37 h
  replace h := hR29 b27 H37 h
  refine GL.val trivial rfl (OV.assign (v := .bool b27) rfl) ?_
  refine GL.nil ?_
  exact GC.ret (fun _ _ hf hs => post_tmp1 rfl rfl hf hs ⟨b27, rfl, h⟩)

def sh_code_Reader_Value (C : Ctx) (p_r : Option (Nat × Nat)) (K : T_api_Value → Heap → Prop) (H : Heap) : Prop :=
  nw (T_api_Value.c T_api_Value.zero) (fun b1 H2 =>
 ift (Option.isNone p_r)
 (stT (b1, 0) (T_api_Value.c (⟨0, 0, [], Sl.nil⟩ : T_api_Value)) (fun H4 =>
 ldT H4 T_api_Value.c (b1, 0) fun x5 =>
 K x5 H4) H2)
 (c_code_Reader_value C p_r 1 (fun r7 H8 =>
 nw (T_api_Value.c T_api_Value.zero) (fun b9 H10 =>
 stT (b9, 0) (T_api_Value.c r7) (fun H11 =>
 ldT H11 T_api_Value.c (b9, 0) fun x12 =>
 c_value_Check C x12 (fun r14 H15 =>
 c_code_Reader_ask C p_r ((r14 : Int) == 0) (fun r16 H17 =>
 ift (!r16)
 (stT (b1, 0) (T_api_Value.c (⟨0, 0, [], Sl.nil⟩ : T_api_Value)) (fun H19 =>
 ldT H19 T_api_Value.c (b1, 0) fun x20 =>
 K x20 H19) H17)
 (ldT H17 T_api_Value.c (b9, 0) fun x22 =>
 stT (b1, 0) (T_api_Value.c x22) (fun H24 =>
 ldT H24 T_api_Value.c (b1, 0) fun x25 =>
 K x25 H24) H17)) H15) H11) H10) H8) H2)) H

theorem ad_code_Reader_Value (C : Ctx) (p_r : Option (Nat × Nat)) (K : T_api_Value → Heap → Prop) (H : Heap) (h : sh_code_Reader_Value C p_r K H) : c_code_Reader_Value C p_r K H := by
  refine Spec.enter Tryd.func38 rfl Tryd.ntmps38 rfl ?_
  refine GC.sub [(0, pv p_r)] ⟨rfl, trivial⟩ ?_
  refine GC.seq ?_
  refine GC.region ?_
  refine GL.alloc (cs := T_api_Value.c T_api_Value.zero) h trivial rfl rfl rfl ?_
  intro b1 H2 h
  refine GL.nil ?_
  refine GC.seq ?_
  refine GC.seq ?_
  refine GC.region ?_
  refine GL.val trivial rfl (OV.move (v := pv p_r) rfl) ?_
  refine GL.val trivial rfl (OV.eqlNil (p := p_r) rfl rfl rfl) ?_
  refine GL.nil ?_
  refine GC.cond (b := Option.isNone p_r) rfl (fun hc3 => ?_) (fun hc3 => ?_)
  · replace h := And.left h hc3
    refine GC.seq ?_
    refine GC.region ?_
    refine GL.val trivial rfl (OV.build (vs := []) (v := .agg (T_api_Value.c (⟨0, 0, [], Sl.nil⟩ : T_api_Value)).toArray) rfl (fun _ => by kernel_rfl)) ?_
    refine GL.storeT (p := (b1, 0)) (vs := T_api_Value.c (⟨0, 0, [], Sl.nil⟩ : T_api_Value)) h trivial rfl rfl rfl rfl ?_
    intro H4 h
    refine GL.nil ?_
    obtain ⟨x5, hr6, h⟩ := h
    exact GC.ret (fun _ _ hf hs => post_res1 rfl (RV.cellT (p := (b1, 0)) (cs := T_api_Value.c x5) rfl rfl rfl hr6) hf hs ⟨x5, rfl, h⟩)
  · replace h := And.right h hc3
    refine GC.skip ?_
    refine GC.seq ?_
    refine GC.region ?_
    refine GL.val trivial rfl (OV.move (v := pv p_r) rfl) ?_
    refine GL.call h trivial rfl ok_code_Reader_value (vs := [pv p_r, .int .i64 1]) rfl ?_
    rintro _ H8 ⟨r7, rfl, h⟩
    refine GL.alloc (cs := T_api_Value.c T_api_Value.zero) h trivial rfl rfl rfl ?_
    intro b9 H10 h
    refine GL.storeT (p := (b9, 0)) (vs := T_api_Value.c r7) h trivial rfl rfl rfl rfl ?_
    intro H11 h
    refine GL.nil ?_
    refine GC.seq ?_
    refine GC.seq ?_
    refine GC.region ?_
    refine GL.val trivial rfl (OV.move (v := pv p_r) rfl) ?_
    obtain ⟨x12, hr13, h⟩ := h
    refine GL.val trivial rfl (OV.loadT (p := (b9, 0)) (cs := T_api_Value.c x12) rfl rfl rfl hr13) ?_
    refine GL.call h trivial rfl ok_value_Check (vs := [.agg (T_api_Value.c x12).toArray]) rfl ?_
    rintro _ H15 ⟨r14, rfl, h⟩
    refine GL.val trivial rfl (OV.ibin (v := .bool ((r14 : Int) == 0)) rfl rfl rfl) ?_
    refine GL.call h trivial rfl ok_code_Reader_ask (vs := [pv p_r, .bool ((r14 : Int) == 0)]) rfl ?_
    rintro _ H17 ⟨r16, rfl, h⟩
    refine GL.val trivial rfl (OV.not rfl) ?_
    refine GL.nil ?_
    refine GC.cond (b := !r16) rfl (fun hc18 => ?_) (fun hc18 => ?_)
    · replace h := And.left h hc18
      refine GC.seq ?_
      refine GC.region ?_
      refine GL.val trivial rfl (OV.build (vs := []) (v := .agg (T_api_Value.c (⟨0, 0, [], Sl.nil⟩ : T_api_Value)).toArray) rfl (fun _ => by kernel_rfl)) ?_
      refine GL.storeT (p := (b1, 0)) (vs := T_api_Value.c (⟨0, 0, [], Sl.nil⟩ : T_api_Value)) h trivial rfl rfl rfl rfl ?_
      intro H19 h
      refine GL.nil ?_
      obtain ⟨x20, hr21, h⟩ := h
      exact GC.ret (fun _ _ hf hs => post_res1 rfl (RV.cellT (p := (b1, 0)) (cs := T_api_Value.c x20) rfl rfl rfl hr21) hf hs ⟨x20, rfl, h⟩)
    · replace h := And.right h hc18
      refine GC.skip ?_
      refine GC.seq ?_
      refine GC.region ?_
      obtain ⟨x22, hr23, h⟩ := h
      refine GL.val trivial rfl (OV.loadT (p := (b9, 0)) (cs := T_api_Value.c x22) rfl rfl rfl hr23) ?_
      refine GL.storeT (p := (b1, 0)) (vs := T_api_Value.c x22) h trivial rfl rfl rfl rfl ?_
      intro H24 h
      refine GL.nil ?_
      obtain ⟨x25, hr26, h⟩ := h
      exact GC.ret (fun _ _ hf hs => post_res1 rfl (RV.cellT (p := (b1, 0)) (cs := T_api_Value.c x25) rfl rfl rfl hr26) hf hs ⟨x25, rfl, h⟩)

def sh_code_Reader_OK (C : Ctx) (p_r : Option (Nat × Nat)) (K : Bool → Heap → Prop) (H : Heap) : Prop :=
  jn (α := Bool) (fun b1 H9 =>
 K b1 H9)
 (fun J2 => ift (!(Option.isNone p_r))
 (nck p_r fun p5 =>
 ldB H (p5.1, p5.2 + 2) fun x7 =>
 J2 (!x7) H)
 (J2 false H))

theorem ad_code_Reader_OK (C : Ctx) (p_r : Option (Nat × Nat)) (K : Bool → Heap → Prop) (H : Heap) (h : sh_code_Reader_OK C p_r K H) : c_code_Reader_OK C p_r K H := by
  refine Spec.enter Tryd.func39 rfl Tryd.ntmps39 rfl ?_
  refine GC.sub [(0, pv p_r)] ⟨rfl, trivial⟩ ?_
  refine GC.seq ?_
  refine GC.region ?_
  refine GL.val trivial rfl (OV.assign (v := .bool false) rfl) ?_
  refine GL.nil ?_
  refine GC.seq ?_
  refine GC.region ?_
  refine GL.val trivial rfl (OV.move (v := pv p_r) rfl) ?_
  refine GL.val trivial rfl (OV.neqNil (p := p_r) rfl rfl rfl) ?_
  refine GL.val trivial rfl (OV.move (v := .bool (!(Option.isNone p_r))) rfl) ?_
  obtain ⟨J2, h, hR3⟩ := h
  refine GL.cut (α := Bool) 6 J2 (fun b1 => [(11, .bool b1)]) ?_ ?_
  · rcases Bool.eq_false_or_eq_true (!(Option.isNone p_r)) with hc4 | hc4
    · skip
      replace h := And.left h hc4
      refine GL.val ⟨_, _, rfl, rfl, hc4⟩ rfl (OV.move (v := pv p_r) rfl) ?_
      obtain ⟨p5, hp6, h⟩ := h
      refine GL.val ⟨_, _, rfl, rfl, hc4⟩ rfl (OV.nilCheck (q := p_r) rfl hp6) ?_
      refine GL.val ⟨_, _, rfl, rfl, hc4⟩ rfl (OV.fieldAddr (p := p5) rfl rfl) ?_
      obtain ⟨x7, hr8, h⟩ := h
      refine GL.val ⟨_, _, rfl, rfl, hc4⟩ rfl (OV.load (p := (p5.1, p5.2 + 2)) rfl rfl hr8) ?_
      refine GL.val ⟨_, _, rfl, rfl, hc4⟩ rfl (OV.not rfl) ?_
      refine GL.val trivial rfl (OV.pickT (b := !(Option.isNone p_r)) (v := .bool (!x7)) rfl hc4 rfl) ?_
      exact GL.jump (fun _ _ h => h) (!x7) h ⟨rfl, trivial⟩
    · skip
      replace h := And.right h hc4
      refine GL.skip ⟨_, rfl, .inl ⟨_, rfl, hc4⟩⟩ rfl ?_
      refine GL.skip ⟨_, rfl, .inl ⟨_, rfl, hc4⟩⟩ rfl ?_
      refine GL.skip ⟨_, rfl, .inl ⟨_, rfl, hc4⟩⟩ rfl ?_
      refine GL.skip ⟨_, rfl, .inl ⟨_, rfl, hc4⟩⟩ rfl ?_
      refine GL.skip ⟨_, rfl, .inl ⟨_, rfl, hc4⟩⟩ rfl ?_
      refine GL.val trivial rfl (OV.pickF (b := !(Option.isNone p_r)) (v := .bool false) rfl hc4 rfl) ?_
      exact GL.jump (fun _ _ h => h) false h ⟨rfl, trivial⟩
  intro b1 H9 h
  replace h := hR3 b1 H9 h
  refine GL.val trivial rfl (OV.assign (v := .bool b1) rfl) ?_
  refine GL.nil ?_
  exact GC.ret (fun _ _ hf hs => post_tmp1 rfl rfl hf hs ⟨b1, rfl, h⟩)

def sh_code_Reader_Count (C : Ctx) (p_r : Option (Nat × Nat)) (p_most : Int) (K : Int → Heap → Prop) (H : Heap) : Prop :=
  ift (Option.isNone p_r)
 (K 0 H)
 (c_code_Reader_next C p_r (fun r2 H3 =>
 c_code_Reader_number C p_r (w .i64 r2) 4 (fun r4 H5 =>
 c_code_Reader_ask C p_r (((decide ((p_most : Int) ≥ 0)) && (decide ((r4 : Int) ≤ 2147483647))) && (decide (((w .i64 r4) : Int) ≤ p_most))) (fun r8 H9 =>
 ift (!r8)
 (K 0 H9)
 (K (w .i64 r4) H9)) H5) H3) H)

theorem ad_code_Reader_Count (C : Ctx) (p_r : Option (Nat × Nat)) (p_most : Int) (K : Int → Heap → Prop) (H : Heap) (h : sh_code_Reader_Count C p_r p_most K H) : c_code_Reader_Count C p_r p_most K H := by
  refine Spec.enter Tryd.func40 rfl Tryd.ntmps40 rfl ?_
  refine GC.sub [(0, pv p_r), (1, .int .i64 p_most)] ⟨rfl, rfl, trivial⟩ ?_
  refine GC.seq ?_
  refine GC.region ?_
  refine GL.val trivial rfl (OV.assign (v := .int .i64 0) rfl) ?_
  refine GL.nil ?_
  refine GC.seq ?_
  refine GC.seq ?_
  refine GC.region ?_
  refine GL.val trivial rfl (OV.move (v := pv p_r) rfl) ?_
  refine GL.val trivial rfl (OV.eqlNil (p := p_r) rfl rfl rfl) ?_
  refine GL.nil ?_
  refine GC.cond (b := Option.isNone p_r) rfl (fun hc1 => ?_) (fun hc1 => ?_)
  · replace h := And.left h hc1
    refine GC.seq ?_
    refine GC.region ?_
    refine GL.val trivial rfl (OV.assign (v := .int .i64 0) rfl) ?_
    refine GL.nil ?_
    exact GC.ret (fun _ _ hf hs => post_tmp1 rfl rfl hf hs ⟨0, rfl, h⟩)
  · replace h := And.right h hc1
    refine GC.skip ?_
    refine GC.seq ?_
    refine GC.region ?_
    refine GL.val trivial rfl (OV.move (v := pv p_r) rfl) ?_
    refine GL.val trivial rfl (OV.move (v := pv p_r) rfl) ?_
    refine GL.call h trivial rfl ok_code_Reader_next (vs := [pv p_r]) rfl ?_
    rintro _ H3 ⟨r2, rfl, h⟩
    refine GL.val trivial rfl (OV.convInt rfl rfl rfl) ?_
    refine GL.call h trivial rfl ok_code_Reader_number (vs := [pv p_r, .int .i64 (w .i64 r2), .int .i64 4]) rfl ?_
    rintro _ H5 ⟨r4, rfl, h⟩
    refine GL.val trivial rfl (OV.assign (v := .int .u64 r4) rfl) ?_
    refine GL.nil ?_
    refine GC.seq ?_
    refine GC.seq ?_
    refine GC.region ?_
    refine GL.val trivial rfl (OV.move (v := pv p_r) rfl) ?_
    refine GL.val trivial rfl (OV.move (v := .int .i64 p_most) rfl) ?_
    refine GL.val trivial rfl (OV.ibin (v := .bool (decide ((p_most : Int) ≥ 0))) rfl rfl rfl) ?_
    refine GL.val trivial rfl (OV.move (v := .bool (decide ((p_most : Int) ≥ 0))) rfl) ?_
    refine GL.cut0 3 [(19, .bool ((decide ((p_most : Int) ≥ 0)) && (decide ((r4 : Int) ≤ 2147483647)))), (1, .int .i64 p_most), (5, .int .u64 r4), (13, pv p_r)] ?_ ?_
    · rcases Bool.eq_false_or_eq_true (decide ((p_most : Int) ≥ 0)) with hc6 | hc6
      · skip
        refine GL.val ⟨_, _, rfl, rfl, hc6⟩ rfl (OV.move (v := .int .u64 r4) rfl) ?_
        refine GL.val ⟨_, _, rfl, rfl, hc6⟩ rfl (OV.ibin (v := .bool (decide ((r4 : Int) ≤ 2147483647))) rfl rfl rfl) ?_
        refine GL.val trivial rfl (OV.pickT (b := decide ((p_most : Int) ≥ 0)) (v := .bool (decide ((r4 : Int) ≤ 2147483647))) rfl hc6 rfl) ?_
        exact GL.jump0 (fun _ _ h => h) () rfl ⟨(by rw [hc6]; rfl), rfl, rfl, rfl, trivial⟩
      · skip
        refine GL.skip ⟨_, rfl, .inl ⟨_, rfl, hc6⟩⟩ rfl ?_
        refine GL.skip ⟨_, rfl, .inl ⟨_, rfl, hc6⟩⟩ rfl ?_
        refine GL.val trivial rfl (OV.pickF (b := decide ((p_most : Int) ≥ 0)) (v := .bool false) rfl hc6 rfl) ?_
        exact GL.jump0 (fun _ _ h => h) () rfl ⟨(by rw [hc6]; rfl), rfl, rfl, rfl, trivial⟩
    refine GL.val trivial rfl (OV.move (v := .bool ((decide ((p_most : Int) ≥ 0)) && (decide ((r4 : Int) ≤ 2147483647)))) rfl) ?_
    refine GL.cut0 5 [(25, .bool (((decide ((p_most : Int) ≥ 0)) && (decide ((r4 : Int) ≤ 2147483647))) && (decide (((w .i64 r4) : Int) ≤ p_most)))), (5, .int .u64 r4), (13, pv p_r)] ?_ ?_
    · rcases Bool.eq_false_or_eq_true ((decide ((p_most : Int) ≥ 0)) && (decide ((r4 : Int) ≤ 2147483647))) with hc7 | hc7
      · skip
        refine GL.val ⟨_, _, rfl, rfl, hc7⟩ rfl (OV.move (v := .int .u64 r4) rfl) ?_
        refine GL.val ⟨_, _, rfl, rfl, hc7⟩ rfl (OV.convInt rfl rfl rfl) ?_
        refine GL.val ⟨_, _, rfl, rfl, hc7⟩ rfl (OV.move (v := .int .i64 p_most) rfl) ?_
        refine GL.val ⟨_, _, rfl, rfl, hc7⟩ rfl (OV.ibin (v := .bool (decide (((w .i64 r4) : Int) ≤ p_most))) rfl rfl rfl) ?_
        refine GL.val trivial rfl (OV.pickT (b := (decide ((p_most : Int) ≥ 0)) && (decide ((r4 : Int) ≤ 2147483647))) (v := .bool (decide (((w .i64 r4) : Int) ≤ p_most))) rfl hc7 rfl) ?_
        exact GL.jump0 (fun _ _ h => h) () rfl ⟨(by rw [hc7]; rfl), rfl, rfl, trivial⟩
      · skip
        refine GL.skip ⟨_, rfl, .inl ⟨_, rfl, hc7⟩⟩ rfl ?_
        refine GL.skip ⟨_, rfl, .inl ⟨_, rfl, hc7⟩⟩ rfl ?_
        refine GL.skip ⟨_, rfl, .inl ⟨_, rfl, hc7⟩⟩ rfl ?_
        refine GL.skip ⟨_, rfl, .inl ⟨_, rfl, hc7⟩⟩ rfl ?_
        refine GL.val trivial rfl (OV.pickF (b := (decide ((p_most : Int) ≥ 0)) && (decide ((r4 : Int) ≤ 2147483647))) (v := .bool false) rfl hc7 rfl) ?_
        exact GL.jump0 (fun _ _ h => h) () rfl ⟨(by rw [hc7]; rfl), rfl, rfl, trivial⟩
    refine GL.call h trivial rfl ok_code_Reader_ask (vs := [pv p_r, .bool (((decide ((p_most : Int) ≥ 0)) && (decide ((r4 : Int) ≤ 2147483647))) && (decide (((w .i64 r4) : Int) ≤ p_most)))]) rfl ?_
    rintro _ H9 ⟨r8, rfl, h⟩
    refine GL.val trivial rfl (OV.not rfl) ?_
    refine GL.nil ?_
    refine GC.cond (b := !r8) rfl (fun hc10 => ?_) (fun hc10 => ?_)
    · replace h := And.left h hc10
      refine GC.seq ?_
      refine GC.region ?_
      refine GL.val trivial rfl (OV.assign (v := .int .i64 0) rfl) ?_
      refine GL.nil ?_
      exact GC.ret (fun _ _ hf hs => post_tmp1 rfl rfl hf hs ⟨0, rfl, h⟩)
    · replace h := And.right h hc10
      refine GC.skip ?_
      refine GC.seq ?_
      refine GC.region ?_
      refine GL.val trivial rfl (OV.move (v := .int .u64 r4) rfl) ?_
      refine GL.val trivial rfl (OV.convInt rfl rfl rfl) ?_
      refine GL.val trivial rfl (OV.assign (v := .int .i64 (w .i64 r4)) rfl) ?_
      refine GL.nil ?_
      exact GC.ret (fun _ _ hf hs => post_tmp1 rfl rfl hf hs ⟨(w .i64 r4), rfl, h⟩)

def sh_code_Reader_Flag (C : Ctx) (p_r : Option (Nat × Nat)) (K : Bool → Heap → Prop) (H : Heap) : Prop :=
  ift (Option.isNone p_r)
 (K false H)
 (c_code_Reader_next C p_r (fun r2 H3 =>
 c_code_Reader_ask C p_r (decide ((r2 : Int) ≤ 1)) (fun r4 H5 =>
 K (r4 && ((r2 : Int) == 1)) H5) H3) H)

theorem ad_code_Reader_Flag (C : Ctx) (p_r : Option (Nat × Nat)) (K : Bool → Heap → Prop) (H : Heap) (h : sh_code_Reader_Flag C p_r K H) : c_code_Reader_Flag C p_r K H := by
  refine Spec.enter Tryd.func41 rfl Tryd.ntmps41 rfl ?_
  refine GC.sub [(0, pv p_r)] ⟨rfl, trivial⟩ ?_
  refine GC.seq ?_
  refine GC.region ?_
  refine GL.val trivial rfl (OV.assign (v := .bool false) rfl) ?_
  refine GL.nil ?_
  refine GC.seq ?_
  refine GC.seq ?_
  refine GC.region ?_
  refine GL.val trivial rfl (OV.move (v := pv p_r) rfl) ?_
  refine GL.val trivial rfl (OV.eqlNil (p := p_r) rfl rfl rfl) ?_
  refine GL.nil ?_
  refine GC.cond (b := Option.isNone p_r) rfl (fun hc1 => ?_) (fun hc1 => ?_)
  · replace h := And.left h hc1
    refine GC.seq ?_
    refine GC.region ?_
    refine GL.val trivial rfl (OV.assign (v := .bool false) rfl) ?_
    refine GL.nil ?_
    exact GC.ret (fun _ _ hf hs => post_tmp1 rfl rfl hf hs ⟨false, rfl, h⟩)
  · replace h := And.right h hc1
    refine GC.skip ?_
    refine GC.seq ?_
    refine GC.region ?_
    refine GL.val trivial rfl (OV.move (v := pv p_r) rfl) ?_
    refine GL.call h trivial rfl ok_code_Reader_next (vs := [pv p_r]) rfl ?_
    rintro _ H3 ⟨r2, rfl, h⟩
    refine GL.val trivial rfl (OV.assign (v := .int .u8 r2) rfl) ?_
    refine GL.nil ?_
    refine GC.seq ?_
    refine GC.region ?_
    refine GL.val trivial rfl (OV.move (v := pv p_r) rfl) ?_
    refine GL.val trivial rfl (OV.move (v := .int .u8 r2) rfl) ?_
    refine GL.val trivial rfl (OV.ibin (v := .bool (decide ((r2 : Int) ≤ 1))) rfl rfl rfl) ?_
    refine GL.call h trivial rfl ok_code_Reader_ask (vs := [pv p_r, .bool (decide ((r2 : Int) ≤ 1))]) rfl ?_
    rintro _ H5 ⟨r4, rfl, h⟩
    refine GL.val trivial rfl (OV.move (v := .bool r4) rfl) ?_
    refine GL.cut0 3 [(15, .bool (r4 && ((r2 : Int) == 1)))] ?_ ?_
    · rcases Bool.eq_false_or_eq_true r4 with hc6 | hc6
      · skip
        refine GL.val ⟨_, _, rfl, rfl, hc6⟩ rfl (OV.move (v := .int .u8 r2) rfl) ?_
        refine GL.val ⟨_, _, rfl, rfl, hc6⟩ rfl (OV.ibin (v := .bool ((r2 : Int) == 1)) rfl rfl rfl) ?_
        refine GL.val trivial rfl (OV.pickT (b := r4) (v := .bool ((r2 : Int) == 1)) rfl hc6 rfl) ?_
        exact GL.jump0 (fun _ _ h => h) () rfl ⟨(by rw [hc6]; rfl), trivial⟩
      · skip
        refine GL.skip ⟨_, rfl, .inl ⟨_, rfl, hc6⟩⟩ rfl ?_
        refine GL.skip ⟨_, rfl, .inl ⟨_, rfl, hc6⟩⟩ rfl ?_
        refine GL.val trivial rfl (OV.pickF (b := r4) (v := .bool false) rfl hc6 rfl) ?_
        exact GL.jump0 (fun _ _ h => h) () rfl ⟨(by rw [hc6]; rfl), trivial⟩
    refine GL.val trivial rfl (OV.assign (v := .bool (r4 && ((r2 : Int) == 1))) rfl) ?_
    refine GL.nil ?_
    exact GC.ret (fun _ _ hf hs => post_tmp1 rfl rfl hf hs ⟨(r4 && ((r2 : Int) == 1)), rfl, h⟩)

def sh_code_behind (C : Ctx) (p_b : Sl) (K : Option (Nat × Nat) → Heap → Prop) (H : Heap) : Prop :=
  c_slices_Clone_byte_byte C p_b (fun r1 H2 =>
 nw (T_code_pen.c (⟨r1, 0⟩ : T_code_pen)) (fun b3 H4 =>
 K (some (b3, 0)) H4) H2) H

theorem ad_code_behind (C : Ctx) (p_b : Sl) (K : Option (Nat × Nat) → Heap → Prop) (H : Heap) (h : sh_code_behind C p_b K H) : c_code_behind C p_b K H := by
  refine Spec.enter Tryd.func43 rfl Tryd.ntmps43 rfl ?_
  refine GC.sub [(0, slv p_b)] ⟨rfl, trivial⟩ ?_
  refine GC.seq ?_
  refine GC.region ?_
  refine GL.val trivial rfl (OV.assign (v := pv none) rfl) ?_
  refine GL.nil ?_
  refine GC.seq ?_
  refine GC.region ?_
  refine GL.val trivial rfl (OV.move (v := slv p_b) rfl) ?_
  refine GL.call h trivial rfl ok_slices_Clone_byte_byte (vs := [slv p_b]) rfl ?_
  rintro _ H2 ⟨r1, rfl, h⟩
  refine GL.val trivial rfl (OV.build (vs := [(0, slv r1)]) (v := .agg (T_code_pen.c (⟨r1, 0⟩ : T_code_pen)).toArray) rfl (fun _ => by kernel_rfl)) ?_
  refine GL.box (v := .agg (T_code_pen.c (⟨r1, 0⟩ : T_code_pen)).toArray) (cs := T_code_pen.c (⟨r1, 0⟩ : T_code_pen)) h trivial rfl rfl rfl ?_
  intro b3 H4 h
  refine GL.val trivial rfl (OV.assign (v := pv (some (b3, 0))) rfl) ?_
  refine GL.nil ?_
  exact GC.ret (fun _ _ hf hs => post_tmp1 rfl rfl hf hs ⟨(some (b3, 0)), rfl, h⟩)

def sh_code_pen_num (C : Ctx) (p_p : Option (Nat × Nat)) (p_n : Int) (K : Heap → Prop) (H : Heap) : Prop :=
  jn (α := Int) (fun x2 H3 =>
 c_code_pen_flip C p_p (decide ((p_n : Int) < 0)) (fun H6 =>
 c_code_pen_number C p_p 128 (w .u64 x2) (fun H7 =>
 c_code_pen_flip C p_p (decide ((p_n : Int) < 0)) (fun H8 =>
 K H8) H7) H6) H3)
 (fun J1 => ift (decide ((p_n : Int) < 0))
 (J1 (bXor .i64 (-1) p_n) H)
 (J1 p_n H))

theorem ad_code_pen_num (C : Ctx) (p_p : Option (Nat × Nat)) (p_n : Int) (K : Heap → Prop) (H : Heap) (h : sh_code_pen_num C p_p p_n K H) : c_code_pen_num C p_p p_n K H := by
  refine Spec.enter Tryd.func44 rfl Tryd.ntmps44 rfl ?_
  refine GC.sub [(0, pv p_p), (1, .int .i64 p_n)] ⟨rfl, rfl, trivial⟩ ?_
  refine GC.seq ?_
  refine GC.region ?_
  refine GL.val trivial rfl (OV.move (v := .int .i64 p_n) rfl) ?_
  refine GL.val trivial rfl (OV.ibin (v := .bool (decide ((p_n : Int) < 0))) rfl rfl rfl) ?_
  refine GL.val trivial rfl (OV.assign (v := .bool (decide ((p_n : Int) < 0))) rfl) ?_
  refine GL.nil ?_
  obtain ⟨J1, h, hR4⟩ := h
  refine GC.join (α := Int) J1 (fun x2 => [(1, .int .i64 x2), (0, pv p_p), (4, .bool (decide ((p_n : Int) < 0)))]) ?_ ?_
  · skip
    refine GC.seq ?_
    refine GC.region ?_
    refine GL.val trivial rfl (OV.move (v := .bool (decide ((p_n : Int) < 0))) rfl) ?_
    refine GL.nil ?_
    refine GC.cond (b := decide ((p_n : Int) < 0)) rfl (fun hc5 => ?_) (fun hc5 => ?_)
    · replace h := And.left h hc5
      refine GC.region ?_
      refine GL.val trivial rfl (OV.move (v := .int .i64 p_n) rfl) ?_
      refine GL.val trivial rfl (OV.iun (v := .int .i64 (bXor .i64 (-1) p_n)) rfl rfl) ?_
      refine GL.val trivial rfl (OV.assign (v := .int .i64 (bXor .i64 (-1) p_n)) rfl) ?_
      exact GL.jump (fun _ _ h => h) (bXor .i64 (-1) p_n) h ⟨rfl, rfl, rfl, trivial⟩
    · replace h := And.right h hc5
      exact GC.jump (fun _ _ h => h) p_n h ⟨rfl, rfl, rfl, trivial⟩
  · intro x2 H3 h
    replace h := hR4 x2 H3 h
    refine GC.seq ?_
    refine GC.region ?_
    refine GL.val trivial rfl (OV.move (v := pv p_p) rfl) ?_
    refine GL.val trivial rfl (OV.move (v := .bool (decide ((p_n : Int) < 0))) rfl) ?_
    refine GL.call h trivial rfl ok_code_pen_flip (vs := [pv p_p, .bool (decide ((p_n : Int) < 0))]) rfl ?_
    rintro _ H6 ⟨rfl, h⟩
    refine GL.nil ?_
    refine GC.seq ?_
    refine GC.region ?_
    refine GL.val trivial rfl (OV.move (v := pv p_p) rfl) ?_
    refine GL.val trivial rfl (OV.move (v := .int .i64 x2) rfl) ?_
    refine GL.val trivial rfl (OV.convInt rfl rfl rfl) ?_
    refine GL.call h trivial rfl ok_code_pen_number (vs := [pv p_p, .int .u8 128, .int .u64 (w .u64 x2)]) rfl ?_
    rintro _ H7 ⟨rfl, h⟩
    refine GL.nil ?_
    refine GC.region ?_
    refine GL.val trivial rfl (OV.move (v := pv p_p) rfl) ?_
    refine GL.val trivial rfl (OV.move (v := .bool (decide ((p_n : Int) < 0))) rfl) ?_
    refine GL.call h trivial rfl ok_code_pen_flip (vs := [pv p_p, .bool (decide ((p_n : Int) < 0))]) rfl ?_
    rintro _ H8 ⟨rfl, h⟩
    exact GL.ends (fun _ _ hf hs => post_tmp0 rfl hf hs ⟨rfl, h⟩)

def sh_code_pen_number (C : Ctx) (p_p : Option (Nat × Nat)) (p_first : Int) (p_u : Int) (K : Heap → Prop) (H : Heap) : Prop :=
  c_math_bits_Len64 C p_u (fun r1 H2 =>
 nw ([.int .u8 (w .u8 (p_first + (w .u8 (w .i64 (Int.tdiv (w .i64 (r1 + 7)) 8)))))]) (fun b3 H4 =>
 c_code_pen_put C p_p (Sl.of (some (b3, 0)) 1 1) (fun H5 =>
 lp (α := Int) (w .i64 (Int.tdiv (w .i64 (r1 + 7)) 8)) H5 (fun x6 J7 H8 =>
 ift (decide ((x6 : Int) > 0))
 (0 ≤ (w .i64 (8 * (w .i64 (x6 - 1)))) ∧
 nw ([.int .u8 (w .u8 (sShr .u64 p_u (w .i64 (8 * (w .i64 (x6 - 1))))))]) (fun b11 H12 =>
 c_code_pen_put C p_p (Sl.of (some (b11, 0)) 1 1) (fun H13 =>
 J7 (w .i64 (x6 - 1)) H13) H12) H8)
 (K H8))) H4) H2) H

theorem ad_code_pen_number (C : Ctx) (p_p : Option (Nat × Nat)) (p_first : Int) (p_u : Int) (K : Heap → Prop) (H : Heap) (h : sh_code_pen_number C p_p p_first p_u K H) : c_code_pen_number C p_p p_first p_u K H := by
  refine Spec.enter Tryd.func48 rfl Tryd.ntmps48 rfl ?_
  refine GC.sub [(0, pv p_p), (1, .int .u8 p_first), (2, .int .u64 p_u)] ⟨rfl, rfl, rfl, trivial⟩ ?_
  refine GC.seq ?_
  refine GC.region ?_
  refine GL.val trivial rfl (OV.move (v := .int .u64 p_u) rfl) ?_
  refine GL.call h trivial rfl ok_math_bits_Len64 (vs := [.int .u64 p_u]) rfl ?_
  rintro _ H2 ⟨r1, rfl, h⟩
  refine GL.val trivial rfl (OV.ibin (v := .int .i64 (w .i64 (r1 + 7))) rfl rfl rfl) ?_
  refine GL.val trivial rfl (OV.quo rfl rfl (by decide)) ?_
  refine GL.val trivial rfl (OV.assign (v := .int .i64 (w .i64 (Int.tdiv (w .i64 (r1 + 7)) 8))) rfl) ?_
  refine GL.nil ?_
  refine GC.seq ?_
  refine GC.region ?_
  refine GL.val trivial rfl (OV.move (v := pv p_p) rfl) ?_
  refine GL.val trivial rfl (OV.move (v := .int .u8 p_first) rfl) ?_
  refine GL.val trivial rfl (OV.move (v := .int .i64 (w .i64 (Int.tdiv (w .i64 (r1 + 7)) 8))) rfl) ?_
  refine GL.val trivial rfl (OV.convInt rfl rfl rfl) ?_
  refine GL.val trivial rfl (OV.ibin (v := .int .u8 (w .u8 (p_first + (w .u8 (w .i64 (Int.tdiv (w .i64 (r1 + 7)) 8)))))) rfl rfl rfl) ?_
  refine GL.buildSlice (cs := [.int .u8 (w .u8 (p_first + (w .u8 (w .i64 (Int.tdiv (w .i64 (r1 + 7)) 8)))))]) h trivial rfl (vs := [(0, .int .u8 (w .u8 (p_first + (w .u8 (w .i64 (Int.tdiv (w .i64 (r1 + 7)) 8))))))]) rfl ⟨5, fun _ => by kernel_rfl⟩ ?_
  intro b3 H4 h
  refine GL.call h trivial rfl ok_code_pen_put (vs := [pv p_p, slv (Sl.of (some (b3, 0)) 1 1)]) rfl ?_
  rintro _ H5 ⟨rfl, h⟩
  refine GL.nil ?_
  refine GC.block ?_
  refine GC.loop (α := Int) h (fun x6 => [(6, .int .i64 x6), (0, pv p_p), (2, .int .u64 p_u)]) ⟨rfl, rfl, rfl, trivial⟩ ?_
  intro x6 H8 J7 h
  refine GC.seq ?_
  refine GC.seq ?_
  refine GC.region ?_
  refine GL.val trivial rfl (OV.move (v := .int .i64 x6) rfl) ?_
  refine GL.val trivial rfl (OV.ibin (v := .bool (decide ((x6 : Int) > 0))) rfl rfl rfl) ?_
  refine GL.nil ?_
  refine GC.cond (b := decide ((x6 : Int) > 0)) rfl (fun hc9 => ?_) (fun hc9 => ?_)
  · replace h := And.left h hc9
    refine GC.skip ?_
    refine GC.seq ?_
    refine GC.block ?_
    refine GC.region ?_
    refine GL.val trivial rfl (OV.move (v := pv p_p) rfl) ?_
    refine GL.val trivial rfl (OV.move (v := .int .u64 p_u) rfl) ?_
    refine GL.val trivial rfl (OV.move (v := .int .i64 x6) rfl) ?_
    refine GL.val trivial rfl (OV.ibin (v := .int .i64 (w .i64 (x6 - 1))) rfl rfl rfl) ?_
    refine GL.val trivial rfl (OV.ibin (v := .int .i64 (w .i64 (8 * (w .i64 (x6 - 1))))) rfl rfl rfl) ?_
    obtain ⟨hb10, h⟩ := h
    refine GL.val trivial rfl (OV.shr rfl rfl hb10) ?_
    refine GL.val trivial rfl (OV.convInt rfl rfl rfl) ?_
    refine GL.buildSlice (cs := [.int .u8 (w .u8 (sShr .u64 p_u (w .i64 (8 * (w .i64 (x6 - 1))))))]) h trivial rfl (vs := [(0, .int .u8 (w .u8 (sShr .u64 p_u (w .i64 (8 * (w .i64 (x6 - 1)))))))]) rfl ⟨5, fun _ => by kernel_rfl⟩ ?_
    intro b11 H12 h
    refine GL.call h trivial rfl ok_code_pen_put (vs := [pv p_p, slv (Sl.of (some (b11, 0)) 1 1)]) rfl ?_
    rintro _ H13 ⟨rfl, h⟩
    refine GL.nil_to (fun _ _ h => h) ?_
    refine GC.region ?_
    refine GL.val trivial rfl (OV.move (v := .int .i64 x6) rfl) ?_
    refine GL.val trivial rfl (OV.ibin (v := .int .i64 (w .i64 (x6 - 1))) rfl rfl rfl) ?_
    refine GL.val trivial rfl (OV.assign (v := .int .i64 (w .i64 (x6 - 1))) rfl) ?_
    exact GL.jump (fun _ _ h => h) (w .i64 (x6 - 1)) h ⟨rfl, rfl, rfl, trivial⟩
  · replace h := And.right h hc9
    exact GC.exit_ends (fun _ _ hf hs => post_tmp0 rfl hf hs ⟨rfl, h⟩)

def sh_code_pen_text (C : Ctx) (p_p : Option (Nat × Nat)) (p_s : Str) (K : Heap → Prop) (H : Heap) : Prop :=
  lp (α := Int) 0 H (fun x1 J2 H3 =>
 ift (decide ((x1 : Int) < (List.length p_s : Int)))
 (jn (α := Unit) (fun x6 H7 =>
 J2 (w .i64 (x1 + 1)) H7)
 (fun J5 => ixs p_s x1 fun c9 =>
 nw ([.int .u8 (c9.toNat : Int)]) (fun b12 H13 =>
 c_code_pen_put C p_p (Sl.of (some (b12, 0)) 1 1) (fun H14 =>
 ixs p_s x1 fun c15 =>
 ift (((c15.toNat : Int) : Int) == 0)
 (nw ([.int .u8 255]) (fun b19 H20 =>
 c_code_pen_put C p_p (Sl.of (some (b19, 0)) 1 1) (fun H21 =>
 J5 () H21) H20) H14)
 (J5 () H14)) H13) H3))
 (nw ([.int .u8 0, .int .u8 0]) (fun b22 H23 =>
 c_code_pen_put C p_p (Sl.of (some (b22, 0)) 2 2) (fun H24 =>
 K H24) H23) H3))

theorem ad_code_pen_text (C : Ctx) (p_p : Option (Nat × Nat)) (p_s : Str) (K : Heap → Prop) (H : Heap) (h : sh_code_pen_text C p_p p_s K H) : c_code_pen_text C p_p p_s K H := by
  refine Spec.enter Tryd.func49 rfl Tryd.ntmps49 rfl ?_
  refine GC.sub [(0, pv p_p), (1, sv p_s)] ⟨rfl, rfl, trivial⟩ ?_
  refine GC.seq ?_
  refine GC.seq ?_
  refine GC.region ?_
  refine GL.val trivial rfl (OV.move (v := sv p_s) rfl) ?_
  refine GL.val trivial rfl (OV.lenStr (s := p_s) rfl rfl) ?_
  refine GL.val trivial rfl (OV.move (v := .int .i64 0) rfl) ?_
  refine GL.nil ?_
  refine GC.block ?_
  refine GC.loop (α := Int) h (fun x1 => [(7, .int .i64 x1), (0, pv p_p), (1, sv p_s), (6, .int .i64 (List.length p_s : Int))]) ⟨rfl, rfl, rfl, rfl, trivial⟩ ?_
  intro x1 H3 J2 h
  refine GC.seq ?_
  refine GC.region ?_
  refine GL.val trivial rfl (OV.ibin (v := .bool (decide ((x1 : Int) < (List.length p_s : Int)))) rfl rfl rfl) ?_
  refine GL.nil ?_
  refine GC.seq ?_
  refine GC.cond (b := decide ((x1 : Int) < (List.length p_s : Int))) rfl (fun hc4 => ?_) (fun hc4 => ?_)
  · replace h := And.left h hc4
    refine GC.skip ?_
    obtain ⟨J5, h, hR8⟩ := h
    refine GC.join (α := Unit) J5 (fun _ => [(0, pv p_p), (1, sv p_s), (6, .int .i64 (List.length p_s : Int)), (7, .int .i64 x1)]) ?_ ?_
    · skip
      refine GC.block ?_
      refine GC.seq ?_
      refine GC.region ?_
      refine GL.val trivial rfl (OV.move (v := .int .i64 x1) rfl) ?_
      refine GL.val trivial rfl (OV.assign (v := .int .i64 x1) rfl) ?_
      refine GL.nil ?_
      refine GC.seq ?_
      refine GC.region ?_
      refine GL.val trivial rfl (OV.move (v := pv p_p) rfl) ?_
      refine GL.val trivial rfl (OV.move (v := sv p_s) rfl) ?_
      refine GL.val trivial rfl (OV.move (v := .int .i64 x1) rfl) ?_
      obtain ⟨c9, ha10, hb11, h⟩ := h
      refine GL.val trivial rfl (OV.indexStr (s := p_s) rfl rfl rfl ha10 hb11) ?_
      refine GL.buildSlice (cs := [.int .u8 (c9.toNat : Int)]) h trivial rfl (vs := [(0, .int .u8 (c9.toNat : Int))]) rfl ⟨5, fun _ => by kernel_rfl⟩ ?_
      intro b12 H13 h
      refine GL.call h trivial rfl ok_code_pen_put (vs := [pv p_p, slv (Sl.of (some (b12, 0)) 1 1)]) rfl ?_
      rintro _ H14 ⟨rfl, h⟩
      refine GL.nil ?_
      refine GC.seq ?_
      refine GC.region ?_
      refine GL.val trivial rfl (OV.move (v := sv p_s) rfl) ?_
      refine GL.val trivial rfl (OV.move (v := .int .i64 x1) rfl) ?_
      obtain ⟨c15, ha16, hb17, h⟩ := h
      refine GL.val trivial rfl (OV.indexStr (s := p_s) rfl rfl rfl ha16 hb17) ?_
      refine GL.val trivial rfl (OV.ibin (v := .bool (((c15.toNat : Int) : Int) == 0)) rfl rfl rfl) ?_
      refine GL.nil ?_
      refine GC.cond (b := ((c15.toNat : Int) : Int) == 0) rfl (fun hc18 => ?_) (fun hc18 => ?_)
      · replace h := And.left h hc18
        refine GC.region ?_
        refine GL.val trivial rfl (OV.move (v := pv p_p) rfl) ?_
        refine GL.buildSlice (cs := [.int .u8 255]) h trivial rfl (vs := [(0, .int .u8 255)]) rfl ⟨5, fun _ => by kernel_rfl⟩ ?_
        intro b19 H20 h
        refine GL.call h trivial rfl ok_code_pen_put (vs := [pv p_p, slv (Sl.of (some (b19, 0)) 1 1)]) rfl ?_
        rintro _ H21 ⟨rfl, h⟩
        exact GL.jump (fun _ _ h => h) () h ⟨rfl, rfl, rfl, rfl, trivial⟩
      · replace h := And.right h hc18
        exact GC.jump (fun _ _ h => h) () h ⟨rfl, rfl, rfl, rfl, trivial⟩
    · intro x6 H7 h
      replace h := hR8 x6 H7 h
      refine GC.region ?_
      refine GL.val trivial rfl (OV.ibin (v := .int .i64 (w .i64 (x1 + 1))) rfl rfl rfl) ?_
      refine GL.val trivial rfl (OV.move (v := .int .i64 (w .i64 (x1 + 1))) rfl) ?_
      exact GL.jump (fun _ _ h => h) (w .i64 (x1 + 1)) h ⟨rfl, rfl, rfl, rfl, trivial⟩
  · replace h := And.right h hc4
    refine GC.exit_to (fun _ _ h => h) ?_
    refine GC.region ?_
    refine GL.val trivial rfl (OV.move (v := pv p_p) rfl) ?_
    refine GL.buildSlice (cs := [.int .u8 0, .int .u8 0]) h trivial rfl (vs := [(0, .int .u8 0), (1, .int .u8 0)]) rfl ⟨5, fun _ => by kernel_rfl⟩ ?_
    intro b22 H23 h
    refine GL.call h trivial rfl ok_code_pen_put (vs := [pv p_p, slv (Sl.of (some (b22, 0)) 2 2)]) rfl ?_
    rintro _ H24 ⟨rfl, h⟩
    exact GL.ends (fun _ _ hf hs => post_tmp0 rfl hf hs ⟨rfl, h⟩)

def sh_code_pen_put (C : Ctx) (p_p : Option (Nat × Nat)) (p_l : Sl) (K : Heap → Prop) (H : Heap) : Prop :=
  lp (α := Int) 0 H (fun x1 J2 H3 =>
 ift (decide ((x1 : Int) < (Sl.len p_l : Int)))
 (ixa p_l x1 fun p5 =>
 ldI H3 .u8 (p5.1, p5.2 + (x1 : Int).toNat * 1) fun x10 =>
 dr H3 fun Hs12 =>
 nck p_p fun p14 =>
 ldL Hs12 (p14.1, p14.2 + 0) fun x16 =>
 nck p_p fun p18 =>
 ldI Hs12 .u8 (p18.1, p18.2 + 1) fun x20 =>
 nw ([.int .u8 (bXor .u8 x10 x20)]) (fun b23 H24 =>
 Heap.le Hs12 H24 ∧
 apS ([.int .u8 0]) 1 x16 (Sl.of (some (b23, 0)) 1 1) (fun r26 H27 =>
 Heap.le Hs12 H27 ∧
 nck p_p fun p28 =>
 st (p28.1, p28.2 + 0) (slv r26) (fun H30 =>
 J2 (w .i64 (x1 + 1)) H30) H27) H24) H3)
 (K H3))

theorem ad_code_pen_put (C : Ctx) (p_p : Option (Nat × Nat)) (p_l : Sl) (K : Heap → Prop) (H : Heap) (h : sh_code_pen_put C p_p p_l K H) : c_code_pen_put C p_p p_l K H := by
  refine Spec.enter Tryd.func50 rfl Tryd.ntmps50 rfl ?_
  refine GC.sub [(0, pv p_p), (1, slv p_l)] ⟨rfl, rfl, trivial⟩ ?_
  refine GC.seq ?_
  refine GC.region ?_
  refine GL.val trivial rfl (OV.move (v := slv p_l) rfl) ?_
  refine GL.val trivial rfl (OV.lenSl (s := p_l) rfl rfl) ?_
  refine GL.val trivial rfl (OV.move (v := .int .i64 0) rfl) ?_
  refine GL.nil ?_
  refine GC.block ?_
  refine GC.loop (α := Int) h (fun x1 => [(8, .int .i64 x1), (0, pv p_p), (6, slv p_l), (7, .int .i64 (Sl.len p_l : Int))]) ⟨rfl, rfl, rfl, rfl, trivial⟩ ?_
  intro x1 H3 J2 h
  refine GC.seq ?_
  refine GC.region ?_
  refine GL.val trivial rfl (OV.ibin (v := .bool (decide ((x1 : Int) < (Sl.len p_l : Int)))) rfl rfl rfl) ?_
  refine GL.nil ?_
  refine GC.seq ?_
  refine GC.cond (b := decide ((x1 : Int) < (Sl.len p_l : Int))) rfl (fun hc4 => ?_) (fun hc4 => ?_)
  · replace h := And.left h hc4
    refine GC.skip ?_
    refine GC.seq ?_
    refine GC.block ?_
    refine GC.seq ?_
    refine GC.region ?_
    obtain ⟨p5, ha6, hb7, hc8, hd9, h⟩ := h
    refine GL.val trivial rfl (OV.indexAddr (s := p_l) rfl rfl rfl rfl ha6 hb7 hc8 hd9) ?_
    obtain ⟨x10, hr11, h⟩ := h
    refine GL.val trivial rfl (OV.load (p := (p5.1, p5.2 + (x1 : Int).toNat * 1)) rfl rfl hr11) ?_
    refine GL.val trivial rfl (OV.assign (v := .int .u8 x10) rfl) ?_
    refine GL.nil ?_
    obtain ⟨Hs12, hle13, h⟩ := h
    refine GC.tail (Hs := Hs12) 15 (by kernel_rfl) hle13 (by kernel_rfl) ?_
    refine GT.take 0 rfl (by kernel_rfl) (by kernel_rfl) (by kernel_rfl) rfl (fun _ _ _ h => False.elim h) trivial rfl (OV.move (v := pv p_p) rfl) ?_
    refine GT.take 1 rfl (by kernel_rfl) (by kernel_rfl) (by kernel_rfl) rfl (fun _ _ _ h => False.elim h) trivial rfl (OV.move (v := pv p_p) rfl) ?_
    obtain ⟨p14, hp15, h⟩ := h
    refine GT.take 2 rfl (by kernel_rfl) (by kernel_rfl) (by kernel_rfl) rfl (fun _ _ _ h => False.elim h) trivial rfl (OV.nilCheck (q := p_p) rfl hp15) ?_
    refine GT.take 3 rfl (by kernel_rfl) (by kernel_rfl) (by kernel_rfl) rfl (fun _ _ _ h => False.elim h) trivial rfl (OV.fieldAddr (p := p14) rfl rfl) ?_
    obtain ⟨x16, hr17, h⟩ := h
    refine GT.take 4 rfl (by kernel_rfl) (by kernel_rfl) (by kernel_rfl) rfl (fun _ _ _ h => False.elim h) trivial rfl (OV.load (p := (p14.1, p14.2 + 0)) rfl rfl hr17) ?_
    refine GT.take 5 rfl (by kernel_rfl) (by kernel_rfl) (by kernel_rfl) rfl (fun _ _ _ h => False.elim h) trivial rfl (OV.move (v := .int .u8 x10) rfl) ?_
    refine GT.take 6 rfl (by kernel_rfl) (by kernel_rfl) (by kernel_rfl) rfl (fun _ _ _ h => False.elim h) trivial rfl (OV.move (v := pv p_p) rfl) ?_
    obtain ⟨p18, hp19, h⟩ := h
    refine GT.take 7 rfl (by kernel_rfl) (by kernel_rfl) (by kernel_rfl) rfl (fun _ _ _ h => False.elim h) trivial rfl (OV.nilCheck (q := p_p) rfl hp19) ?_
    refine GT.take 8 rfl (by kernel_rfl) (by kernel_rfl) (by kernel_rfl) rfl (fun _ _ _ h => False.elim h) trivial rfl (OV.fieldAddr (p := p18) rfl rfl) ?_
    obtain ⟨x20, hr21, h⟩ := h
    refine GT.take 9 rfl (by kernel_rfl) (by kernel_rfl) (by kernel_rfl) rfl (fun _ _ _ h => False.elim h) trivial rfl (OV.load (p := (p18.1, p18.2 + 1)) rfl rfl hr21) ?_
    refine GT.take 10 rfl (by kernel_rfl) (by kernel_rfl) (by kernel_rfl) rfl (fun _ _ _ h => False.elim h) trivial rfl (OV.ibin (v := .int .u8 (bXor .u8 x10 x20)) rfl rfl rfl) ?_
    refine GT.eff 11 rfl (by kernel_rfl) rfl ?_
    refine GL.buildSlice (cs := [.int .u8 (bXor .u8 x10 x20)]) h trivial rfl (vs := [(0, .int .u8 (bXor .u8 x10 x20))]) rfl ⟨5, fun _ => by kernel_rfl⟩ ?_
    intro b23 H24 h
    obtain ⟨hle22, h⟩ := h
    refine GT.back hle22 ?_
    refine GT.eff 12 rfl (by kernel_rfl) rfl ?_
    refine GL.appendS (s := x16) (s2 := (Sl.of (some (b23, 0)) 1 1)) (zc := [.int .u8 0]) (bytes := 1) h trivial rfl rfl rfl ⟨⟨_, _, _, rfl, rfl, rfl, rfl, rfl, rfl⟩⟩ rfl ?_
    intro r26 H27 h
    obtain ⟨hle25, h⟩ := h
    refine GT.back hle25 ?_
    obtain ⟨p28, hp29, h⟩ := h
    refine GT.take 13 rfl (by kernel_rfl) (by kernel_rfl) (by kernel_rfl) rfl (fun _ _ _ h => False.elim h) trivial rfl (OV.nilCheck (q := p_p) rfl hp29) ?_
    refine GT.take 14 rfl (by kernel_rfl) (by kernel_rfl) (by kernel_rfl) rfl (fun _ _ _ h => False.elim h) trivial rfl (OV.fieldAddr (p := p28) rfl rfl) ?_
    refine GT.done (by kernel_rfl) ?_
    show GL _ _ _ _ _ [_] _ _
    refine GL.store (p := (p28.1, p28.2 + 0)) (v := slv r26) h trivial rfl rfl rfl rfl ?_
    intro H30 h
    refine GL.nil_to (fun _ _ h => h) ?_
    refine GC.region ?_
    refine GL.val trivial rfl (OV.ibin (v := .int .i64 (w .i64 (x1 + 1))) rfl rfl rfl) ?_
    refine GL.val trivial rfl (OV.move (v := .int .i64 (w .i64 (x1 + 1))) rfl) ?_
    exact GL.jump (fun _ _ h => h) (w .i64 (x1 + 1)) h ⟨rfl, rfl, rfl, rfl, trivial⟩
  · replace h := And.right h hc4
    exact GC.exit_ends (fun _ _ hf hs => post_tmp0 rfl hf hs ⟨rfl, h⟩)

def sh_value_Check (C : Ctx) (p_v : T_api_Value) (K : Int → Heap → Prop) (H : Heap) : Prop :=
  nw (T_api_Value.c p_v) (fun b1 H2 =>
 ldT H2 T_api_Value.c (b1, 0) fun x3 =>
 c_value_depth C x3 65 (fun r5 H6 =>
 ift (decide ((r5 : Int) > 64))
 (K 65 H6)
 (ldT H6 T_api_Value.c (b1, 0) fun x8 =>
 c_value_item_look C x8 (fun r10 r11 H12 =>
 ift (!r10)
 (K 4 H12)
 (ift (!r11)
 (K 40 H12)
 (K 0 H12))) H6)) H2) H

theorem ad_value_Check (C : Ctx) (p_v : T_api_Value) (K : Int → Heap → Prop) (H : Heap) (h : sh_value_Check C p_v K H) : c_value_Check C p_v K H := by
  refine Spec.enter Tryd.func51 rfl Tryd.ntmps51 rfl ?_
  refine GC.sub [(0, .agg (T_api_Value.c p_v).toArray)] ⟨rfl, trivial⟩ ?_
  refine GC.seq ?_
  refine GC.region ?_
  refine GL.box (v := .agg (T_api_Value.c p_v).toArray) (cs := T_api_Value.c p_v) h trivial rfl rfl rfl ?_
  intro b1 H2 h
  refine GL.val trivial rfl (OV.assign (v := .int .i64 0) rfl) ?_
  refine GL.nil ?_
  refine GC.seq ?_
  refine GC.seq ?_
  refine GC.region ?_
  obtain ⟨x3, hr4, h⟩ := h
  refine GL.val trivial rfl (OV.loadT (p := (b1, 0)) (cs := T_api_Value.c x3) rfl rfl rfl hr4) ?_
  refine GL.call h trivial rfl ok_value_depth (vs := [.agg (T_api_Value.c x3).toArray, .int .i64 65]) rfl ?_
  rintro _ H6 ⟨r5, rfl, h⟩
  refine GL.val trivial rfl (OV.ibin (v := .bool (decide ((r5 : Int) > 64))) rfl rfl rfl) ?_
  refine GL.nil ?_
  refine GC.cond (b := decide ((r5 : Int) > 64)) rfl (fun hc7 => ?_) (fun hc7 => ?_)
  · replace h := And.left h hc7
    refine GC.seq ?_
    refine GC.region ?_
    refine GL.val trivial rfl (OV.assign (v := .int .i64 65) rfl) ?_
    refine GL.nil ?_
    exact GC.ret (fun _ _ hf hs => post_tmp1 rfl rfl hf hs ⟨65, rfl, h⟩)
  · replace h := And.right h hc7
    refine GC.skip ?_
    refine GC.seq ?_
    refine GC.seq ?_
    refine GC.region ?_
    obtain ⟨x8, hr9, h⟩ := h
    refine GL.val trivial rfl (OV.loadT (p := (b1, 0)) (cs := T_api_Value.c x8) rfl rfl rfl hr9) ?_
    refine GL.call h trivial rfl ok_value_item_look (vs := [.agg (T_api_Value.c x8).toArray]) rfl ?_
    rintro _ H12 ⟨r10, r11, rfl, h⟩
    refine GL.val trivial rfl (OV.move (v := .tuple #[.bool r10, .bool r11]) rfl) ?_
    refine GL.val trivial rfl (OV.extract (v := .bool r10) rfl rfl) ?_
    refine GL.val trivial rfl (OV.extract (v := .bool r11) rfl rfl) ?_
    refine GL.val trivial rfl (OV.assign (v := .bool r10) rfl) ?_
    refine GL.val trivial rfl (OV.assign (v := .bool r11) rfl) ?_
    refine GL.nil ?_
    refine GC.block ?_
    refine GC.seq ?_
    refine GC.region ?_
    refine GL.val trivial rfl (OV.move (v := .bool r10) rfl) ?_
    refine GL.val trivial rfl (OV.not rfl) ?_
    refine GL.val trivial rfl (OV.assign (v := .bool (!r10)) rfl) ?_
    refine GL.nil ?_
    refine GC.cond (b := !r10) rfl (fun hc13 => ?_) (fun hc13 => ?_)
    · replace h := And.left h hc13
      refine GC.seq ?_
      refine GC.region ?_
      refine GL.val trivial rfl (OV.assign (v := .int .i64 4) rfl) ?_
      refine GL.nil ?_
      exact GC.ret (fun _ _ hf hs => post_tmp1 rfl rfl hf hs ⟨4, rfl, h⟩)
    · replace h := And.right h hc13
      refine GC.seq ?_
      refine GC.region ?_
      refine GL.val trivial rfl (OV.move (v := .bool r11) rfl) ?_
      refine GL.val trivial rfl (OV.not rfl) ?_
      refine GL.val trivial rfl (OV.assign (v := .bool (!r11)) rfl) ?_
      refine GL.nil ?_
      refine GC.cond (b := !r11) rfl (fun hc14 => ?_) (fun hc14 => ?_)
      · replace h := And.left h hc14
        refine GC.seq ?_
        refine GC.region ?_
        refine GL.val trivial rfl (OV.assign (v := .int .i64 40) rfl) ?_
        refine GL.nil ?_
        exact GC.ret (fun _ _ hf hs => post_tmp1 rfl rfl hf hs ⟨40, rfl, h⟩)
      · replace h := And.right h hc14
        refine GC.skip_to (fun _ _ h => h) ?_
        refine GC.seq ?_
        refine GC.region ?_
        refine GL.val trivial rfl (OV.assign (v := .int .i64 0) rfl) ?_
        refine GL.nil ?_
        exact GC.ret (fun _ _ hf hs => post_tmp1 rfl rfl hf hs ⟨0, rfl, h⟩)

def sh_slices_Clone_byte_byte (C : Ctx) (p_s : Sl) (K : Sl → Heap → Prop) (H : Heap) : Prop :=
  ift (Sl.isNil p_s)
 (K Sl.nil H)
 (nw ([]) (fun b2 H3 =>
 apS ([.int .u8 0]) 1 (Sl.of (some (b2, 0)) 0 0) p_s (fun r4 H5 =>
 K r4 H5) H3) H)

theorem ad_slices_Clone_byte_byte (C : Ctx) (p_s : Sl) (K : Sl → Heap → Prop) (H : Heap) (h : sh_slices_Clone_byte_byte C p_s K H) : c_slices_Clone_byte_byte C p_s K H := by
  refine Spec.enter Tryd.func61 rfl Tryd.ntmps61 rfl ?_
  refine GC.sub [(0, slv p_s)] ⟨rfl, trivial⟩ ?_
  refine GC.seq ?_
  refine GC.region ?_
  refine GL.val trivial rfl (OV.assign (v := slv Sl.nil) rfl) ?_
  refine GL.nil ?_
  refine GC.seq ?_
  refine GC.seq ?_
  refine GC.region ?_
  refine GL.val trivial rfl (OV.move (v := slv p_s) rfl) ?_
  refine GL.val trivial rfl (OV.eqlSl (s := p_s) rfl rfl rfl) ?_
  refine GL.nil ?_
  refine GC.cond (b := Sl.isNil p_s) rfl (fun hc1 => ?_) (fun hc1 => ?_)
  · replace h := And.left h hc1
    refine GC.seq ?_
    refine GC.region ?_
    refine GL.val trivial rfl (OV.assign (v := slv Sl.nil) rfl) ?_
    refine GL.nil ?_
    exact GC.ret (fun _ _ hf hs => post_tmp1 rfl rfl hf hs ⟨Sl.nil, rfl, h⟩)
  · replace h := And.right h hc1
    refine GC.skip ?_
    refine GC.seq ?_
    refine GC.region ?_
    refine GL.buildSlice (cs := []) h trivial rfl (vs := []) rfl ⟨5, fun _ => by kernel_rfl⟩ ?_
    intro b2 H3 h
    refine GL.val trivial rfl (OV.move (v := slv p_s) rfl) ?_
    refine GL.appendS (s := (Sl.of (some (b2, 0)) 0 0)) (s2 := p_s) (zc := [.int .u8 0]) (bytes := 1) h trivial rfl rfl rfl ⟨⟨_, _, _, rfl, rfl, rfl, rfl, rfl, rfl⟩⟩ rfl ?_
    intro r4 H5 h
    refine GL.val trivial rfl (OV.assign (v := slv r4) rfl) ?_
    refine GL.nil ?_
    exact GC.ret (fun _ _ hf hs => post_tmp1 rfl rfl hf hs ⟨r4, rfl, h⟩)

end Sx
