/-
  Texts of this family, one behind the other: Sh1, Sh2.
-/
import Derived.Test.YtlpjpjbgfffffaaDoorA1
import Derived.Test.YtlpjpjbgfffffaaDoorProg
set_option linter.unusedVariables false
set_option maxRecDepth 100000
namespace Sx
open Go Go.Proofs
structure T_api_Value where
  Kind : Int
  N : Int
  S : Str
  L : Sl
def T_api_Value.c (x : T_api_Value) : List Value := [.int .u8 x.Kind, .int .i64 x.N, sv x.S, slv x.L]
def T_api_Value.zero : T_api_Value := ⟨0, 0, [], Sl.nil⟩
structure T_law03_Ask where
  Kind : Int
  Most : Int
def T_law03_Ask.c (x : T_law03_Ask) : List Value := [.int .u8 x.Kind, .int .i64 x.Most]
def T_law03_Ask.zero : T_law03_Ask := ⟨0, 0⟩
structure T_law03_told where
  n_ : Int
  s_ : Str
  v_ : T_api_Value
  ok_ : Bool
def T_law03_told.c (x : T_law03_told) : List Value := [.int .i64 x.n_, sv x.s_, .int .u8 x.v_.Kind, .int .i64 x.v_.N, sv x.v_.S, slv x.v_.L, .bool x.ok_]
def T_law03_told.zero : T_law03_told := ⟨0, [], T_api_Value.zero, false⟩
structure T_code_Reader where
  b_ : Sl
  turn_ : Int
  failed_ : Bool
def T_code_Reader.c (x : T_code_Reader) : List Value := [slv x.b_, .int .u8 x.turn_, .bool x.failed_]
def T_code_Reader.zero : T_code_Reader := ⟨Sl.nil, 0, false⟩
structure T_code_pen where
  b_ : Sl
  turn_ : Int
def T_code_pen.c (x : T_code_pen) : List Value := [slv x.b_, .int .u8 x.turn_]
def T_code_pen.zero : T_code_pen := ⟨Sl.nil, 0⟩

theorem ok_law03_wide : CallOk Tryd.prog 10 := ⟨⟨_, Tryd.func10, rfl, by decide +kernel⟩⟩
theorem ok_law03_works : CallOk Tryd.prog 11 := ⟨⟨_, Tryd.func11, rfl, by decide +kernel⟩⟩
theorem ok_code_Num : CallOk Tryd.prog 13 := ⟨⟨_, Tryd.func13, rfl, by decide +kernel⟩⟩
theorem ok_code_Count : CallOk Tryd.prog 15 := ⟨⟨_, Tryd.func15, rfl, by decide +kernel⟩⟩
theorem ok_code_Str : CallOk Tryd.prog 17 := ⟨⟨_, Tryd.func17, rfl, by decide +kernel⟩⟩
theorem ok_code_Flag : CallOk Tryd.prog 19 := ⟨⟨_, Tryd.func19, rfl, by decide +kernel⟩⟩
theorem ok_code_Value : CallOk Tryd.prog 21 := ⟨⟨_, Tryd.func21, rfl, by decide +kernel⟩⟩
theorem ok_law03_behind : CallOk Tryd.prog 25 := ⟨⟨_, Tryd.func25, rfl, by decide +kernel⟩⟩
theorem ok_code_NewReader : CallOk Tryd.prog 28 := ⟨⟨_, Tryd.func28, rfl, by decide +kernel⟩⟩
theorem ok_code_Reader_Left : CallOk Tryd.prog 30 := ⟨⟨_, Tryd.func30, rfl, by decide +kernel⟩⟩
theorem ok_code_Reader_Done : CallOk Tryd.prog 32 := ⟨⟨_, Tryd.func32, rfl, by decide +kernel⟩⟩
theorem ok_code_Reader_Num : CallOk Tryd.prog 33 := ⟨⟨_, Tryd.func33, rfl, by decide +kernel⟩⟩
theorem ok_code_Reader_Str : CallOk Tryd.prog 34 := ⟨⟨_, Tryd.func34, rfl, by decide +kernel⟩⟩
theorem ok_ref02_Same : CallOk Tryd.prog 37 := ⟨⟨_, Tryd.func37, rfl, by decide +kernel⟩⟩
theorem ok_code_Reader_Value : CallOk Tryd.prog 38 := ⟨⟨_, Tryd.func38, rfl, by decide +kernel⟩⟩
theorem ok_code_Reader_OK : CallOk Tryd.prog 39 := ⟨⟨_, Tryd.func39, rfl, by decide +kernel⟩⟩
theorem ok_code_Reader_Count : CallOk Tryd.prog 40 := ⟨⟨_, Tryd.func40, rfl, by decide +kernel⟩⟩
theorem ok_code_Reader_Flag : CallOk Tryd.prog 41 := ⟨⟨_, Tryd.func41, rfl, by decide +kernel⟩⟩
theorem ok_law03_parts : CallOk Tryd.prog 42 := ⟨⟨_, Tryd.func42, rfl, by decide +kernel⟩⟩
theorem ok_code_behind : CallOk Tryd.prog 43 := ⟨⟨_, Tryd.func43, rfl, by decide +kernel⟩⟩
theorem ok_code_pen_num : CallOk Tryd.prog 44 := ⟨⟨_, Tryd.func44, rfl, by decide +kernel⟩⟩
theorem ok_code_pen_number : CallOk Tryd.prog 48 := ⟨⟨_, Tryd.func48, rfl, by decide +kernel⟩⟩
theorem ok_code_pen_text : CallOk Tryd.prog 49 := ⟨⟨_, Tryd.func49, rfl, by decide +kernel⟩⟩
theorem ok_code_pen_put : CallOk Tryd.prog 50 := ⟨⟨_, Tryd.func50, rfl, by decide +kernel⟩⟩
theorem ok_value_Check : CallOk Tryd.prog 51 := ⟨⟨_, Tryd.func51, rfl, by decide +kernel⟩⟩
theorem ok_code_pen_value : CallOk Tryd.prog 52 := ⟨⟨_, Tryd.func52, rfl, by decide +kernel⟩⟩
theorem ok_slices_Clone_byte_byte : CallOk Tryd.prog 61 := ⟨⟨_, Tryd.func61, rfl, by decide +kernel⟩⟩
theorem ok_code_Reader_next : CallOk Tryd.prog 62 := ⟨⟨_, Tryd.func62, rfl, by decide +kernel⟩⟩
theorem ok_code_Reader_flip : CallOk Tryd.prog 63 := ⟨⟨_, Tryd.func63, rfl, by decide +kernel⟩⟩
theorem ok_code_Reader_number : CallOk Tryd.prog 64 := ⟨⟨_, Tryd.func64, rfl, by decide +kernel⟩⟩
theorem ok_code_Reader_ask : CallOk Tryd.prog 65 := ⟨⟨_, Tryd.func65, rfl, by decide +kernel⟩⟩
theorem ok_ref02_SameRow : CallOk Tryd.prog 66 := ⟨⟨_, Tryd.func66, rfl, by decide +kernel⟩⟩
theorem ok_code_Reader_value : CallOk Tryd.prog 67 := ⟨⟨_, Tryd.func67, rfl, by decide +kernel⟩⟩
theorem ok_code_pen_flip : CallOk Tryd.prog 68 := ⟨⟨_, Tryd.func68, rfl, by decide +kernel⟩⟩
theorem ok_math_bits_Len64 : CallOk Tryd.prog 69 := ⟨⟨_, Tryd.func69, rfl, by decide +kernel⟩⟩
theorem ok_value_depth : CallOk Tryd.prog 70 := ⟨⟨_, Tryd.func70, rfl, by decide +kernel⟩⟩
theorem ok_value_item_look : CallOk Tryd.prog 71 := ⟨⟨_, Tryd.func71, rfl, by decide +kernel⟩⟩
theorem ok_code_pen_truth : CallOk Tryd.prog 72 := ⟨⟨_, Tryd.func72, rfl, by decide +kernel⟩⟩
theorem ok_code_pen_whole : CallOk Tryd.prog 73 := ⟨⟨_, Tryd.func73, rfl, by decide +kernel⟩⟩
theorem ok_code_pen_big : CallOk Tryd.prog 74 := ⟨⟨_, Tryd.func74, rfl, by decide +kernel⟩⟩
theorem ok_code_pen_words : CallOk Tryd.prog 75 := ⟨⟨_, Tryd.func75, rfl, by decide +kernel⟩⟩
theorem ok_code_pen_list : CallOk Tryd.prog 76 := ⟨⟨_, Tryd.func76, rfl, by decide +kernel⟩⟩
theorem ok_code_pen_cons : CallOk Tryd.prog 77 := ⟨⟨_, Tryd.func77, rfl, by decide +kernel⟩⟩
theorem ok_code_Reader_truth : CallOk Tryd.prog 85 := ⟨⟨_, Tryd.func85, rfl, by decide +kernel⟩⟩
theorem ok_code_Reader_whole : CallOk Tryd.prog 86 := ⟨⟨_, Tryd.func86, rfl, by decide +kernel⟩⟩
theorem ok_code_Reader_big : CallOk Tryd.prog 87 := ⟨⟨_, Tryd.func87, rfl, by decide +kernel⟩⟩
theorem ok_code_Reader_words : CallOk Tryd.prog 88 := ⟨⟨_, Tryd.func88, rfl, by decide +kernel⟩⟩
theorem ok_code_Reader_list : CallOk Tryd.prog 89 := ⟨⟨_, Tryd.func89, rfl, by decide +kernel⟩⟩
theorem ok_code_Reader_cons : CallOk Tryd.prog 90 := ⟨⟨_, Tryd.func90, rfl, by decide +kernel⟩⟩
theorem ok_value_number : CallOk Tryd.prog 91 := ⟨⟨_, Tryd.func91, rfl, by decide +kernel⟩⟩
theorem ok_strings_Cut : CallOk Tryd.prog 92 := ⟨⟨_, Tryd.func92, rfl, by decide +kernel⟩⟩
theorem ok_value_name : CallOk Tryd.prog 93 := ⟨⟨_, Tryd.func93, rfl, by decide +kernel⟩⟩
theorem ok_strings_CutPrefix : CallOk Tryd.prog 94 := ⟨⟨_, Tryd.func94, rfl, by decide +kernel⟩⟩
theorem ok_strings_TrimPrefix : CallOk Tryd.prog 96 := ⟨⟨_, Tryd.func96, rfl, by decide +kernel⟩⟩
theorem ok_strings_Trim : CallOk Tryd.prog 97 := ⟨⟨_, Tryd.func97, rfl, by decide +kernel⟩⟩
theorem ok_internal_stringslite_Cut : CallOk Tryd.prog 98 := ⟨⟨_, Tryd.func98, rfl, by decide +kernel⟩⟩
theorem ok_internal_stringslite_CutPrefix : CallOk Tryd.prog 99 := ⟨⟨_, Tryd.func99, rfl, by decide +kernel⟩⟩
theorem ok_internal_stringslite_TrimPrefix : CallOk Tryd.prog 101 := ⟨⟨_, Tryd.func101, rfl, by decide +kernel⟩⟩
theorem ok_strings_trimLeftByte : CallOk Tryd.prog 102 := ⟨⟨_, Tryd.func102, rfl, by decide +kernel⟩⟩
theorem ok_strings_trimRightByte : CallOk Tryd.prog 103 := ⟨⟨_, Tryd.func103, rfl, by decide +kernel⟩⟩
theorem ok_strings_makeASCIISet : CallOk Tryd.prog 104 := ⟨⟨_, Tryd.func104, rfl, by decide +kernel⟩⟩
theorem ok_strings_trimLeftASCII : CallOk Tryd.prog 105 := ⟨⟨_, Tryd.func105, rfl, by decide +kernel⟩⟩
theorem ok_strings_trimRightASCII : CallOk Tryd.prog 106 := ⟨⟨_, Tryd.func106, rfl, by decide +kernel⟩⟩
theorem ok_strings_trimLeftUnicode : CallOk Tryd.prog 107 := ⟨⟨_, Tryd.func107, rfl, by decide +kernel⟩⟩
theorem ok_strings_trimRightUnicode : CallOk Tryd.prog 108 := ⟨⟨_, Tryd.func108, rfl, by decide +kernel⟩⟩
theorem ok_internal_stringslite_Index : CallOk Tryd.prog 109 := ⟨⟨_, Tryd.func109, rfl, by decide +kernel⟩⟩
theorem ok_internal_stringslite_HasPrefix : CallOk Tryd.prog 110 := ⟨⟨_, Tryd.func110, rfl, by decide +kernel⟩⟩
theorem ok_strings_asciiSet_contains : CallOk Tryd.prog 111 := ⟨⟨_, Tryd.func111, rfl, by decide +kernel⟩⟩
theorem ok_internal_stringslite_IndexByte : CallOk Tryd.prog 115 := ⟨⟨_, Tryd.func115, rfl, by decide +kernel⟩⟩
theorem ok_internal_bytealg_Cutover : CallOk Tryd.prog 117 := ⟨⟨_, Tryd.func117, rfl, by decide +kernel⟩⟩
theorem ok_internal_bytealg_IndexRabinKarp_string : CallOk Tryd.prog 118 := ⟨⟨_, Tryd.func118, rfl, by decide +kernel⟩⟩
theorem ext_internal_bytealg_IndexByteString : ExtOk Tryd.prog 122 Extern.BytealgIndexByte.indexByte := ⟨⟨_, Tryd.func122, by kernel_rfl, by kernel_rfl, by kernel_rfl, by kernel_rfl⟩⟩

def c_law03_CodeApart (C : Ctx) (p_v : T_api_Value) (p_w : T_api_Value) (p_k : Int) (p_tail : Sl) (K : Bool → Heap → Prop) (H : Heap) : Prop :=
  Spec Tryd.prog C 8 [.agg (T_api_Value.c p_v).toArray, .agg (T_api_Value.c p_w).toArray, .int .i64 p_k, slv p_tail] H (fun v H2 => ∃ (r0 : Bool), v = .bool r0 ∧ K r0 H2)
theorem c_law03_CodeApart.mono {C : Ctx} {p_v : T_api_Value} {p_w : T_api_Value} {p_k : Int} {p_tail : Sl} {K K2 : Bool → Heap → Prop} {H : Heap} (h : c_law03_CodeApart C p_v p_w p_k p_tail K H) (hk : ∀ r0 H2, K r0 H2 → K2 r0 H2) : c_law03_CodeApart C p_v p_w p_k p_tail K2 H :=
  Spec.mono h fun _ H2 ⟨r0, hv, h2⟩ => ⟨r0, hv, hk r0 H2 h2⟩
theorem c_law03_CodeApart.gh {C : Ctx} {p_v : T_api_Value} {p_w : T_api_Value} {p_k : Int} {p_tail : Sl} {K : Bool → Heap → Prop} {H : Heap} (h : c_law03_CodeApart C p_v p_w p_k p_tail (fun r0 H2 => ∃ H0, Gh C H2 H0 ∧ K r0 H0) H) : c_law03_CodeApart C p_v p_w p_k p_tail K H :=
  Spec.gh (Spec.mono h fun _ H2 ⟨r0, hv, H0, hg, hk⟩ => ⟨H0, hg, r0, hv, hk⟩)
def c_law03_wide (C : Ctx) (p_v : T_api_Value) (K : Bool → Heap → Prop) (H : Heap) : Prop :=
  Spec Tryd.prog C 10 [.agg (T_api_Value.c p_v).toArray] H (fun v H2 => ∃ (r0 : Bool), v = .bool r0 ∧ K r0 H2)
theorem c_law03_wide.mono {C : Ctx} {p_v : T_api_Value} {K K2 : Bool → Heap → Prop} {H : Heap} (h : c_law03_wide C p_v K H) (hk : ∀ r0 H2, K r0 H2 → K2 r0 H2) : c_law03_wide C p_v K2 H :=
  Spec.mono h fun _ H2 ⟨r0, hv, h2⟩ => ⟨r0, hv, hk r0 H2 h2⟩
theorem c_law03_wide.gh {C : Ctx} {p_v : T_api_Value} {K : Bool → Heap → Prop} {H : Heap} (h : c_law03_wide C p_v (fun r0 H2 => ∃ H0, Gh C H2 H0 ∧ K r0 H0) H) : c_law03_wide C p_v K H :=
  Spec.gh (Spec.mono h fun _ H2 ⟨r0, hv, H0, hg, hk⟩ => ⟨H0, hg, r0, hv, hk⟩)
def c_law03_works (C : Ctx) (K : Bool → Heap → Prop) (H : Heap) : Prop :=
  Spec Tryd.prog C 11 [] H (fun v H2 => ∃ (r0 : Bool), v = .bool r0 ∧ K r0 H2)
theorem c_law03_works.mono {C : Ctx} {K K2 : Bool → Heap → Prop} {H : Heap} (h : c_law03_works C  K H) (hk : ∀ r0 H2, K r0 H2 → K2 r0 H2) : c_law03_works C  K2 H :=
  Spec.mono h fun _ H2 ⟨r0, hv, h2⟩ => ⟨r0, hv, hk r0 H2 h2⟩
theorem c_law03_works.gh {C : Ctx} {K : Bool → Heap → Prop} {H : Heap} (h : c_law03_works C  (fun r0 H2 => ∃ H0, Gh C H2 H0 ∧ K r0 H0) H) : c_law03_works C  K H :=
  Spec.gh (Spec.mono h fun _ H2 ⟨r0, hv, H0, hg, hk⟩ => ⟨H0, hg, r0, hv, hk⟩)
def c_code_Num (C : Ctx) (p_b : Sl) (p_n : Int) (K : Sl → Heap → Prop) (H : Heap) : Prop :=
  Spec Tryd.prog C 13 [slv p_b, .int .i64 p_n] H (fun v H2 => ∃ (r0 : Sl), v = slv r0 ∧ K r0 H2)
theorem c_code_Num.mono {C : Ctx} {p_b : Sl} {p_n : Int} {K K2 : Sl → Heap → Prop} {H : Heap} (h : c_code_Num C p_b p_n K H) (hk : ∀ r0 H2, K r0 H2 → K2 r0 H2) : c_code_Num C p_b p_n K2 H :=
  Spec.mono h fun _ H2 ⟨r0, hv, h2⟩ => ⟨r0, hv, hk r0 H2 h2⟩
theorem c_code_Num.gh {C : Ctx} {p_b : Sl} {p_n : Int} {K : Sl → Heap → Prop} {H : Heap} (h : c_code_Num C p_b p_n (fun r0 H2 => ∃ H0, Gh C H2 H0 ∧ K r0 H0) H) : c_code_Num C p_b p_n K H :=
  Spec.gh (Spec.mono h fun _ H2 ⟨r0, hv, H0, hg, hk⟩ => ⟨H0, hg, r0, hv, hk⟩)
def c_code_Count (C : Ctx) (p_b : Sl) (p_n : Int) (K : Sl → Heap → Prop) (H : Heap) : Prop :=
  Spec Tryd.prog C 15 [slv p_b, .int .i64 p_n] H (fun v H2 => ∃ (r0 : Sl), v = slv r0 ∧ K r0 H2)
theorem c_code_Count.mono {C : Ctx} {p_b : Sl} {p_n : Int} {K K2 : Sl → Heap → Prop} {H : Heap} (h : c_code_Count C p_b p_n K H) (hk : ∀ r0 H2, K r0 H2 → K2 r0 H2) : c_code_Count C p_b p_n K2 H :=
  Spec.mono h fun _ H2 ⟨r0, hv, h2⟩ => ⟨r0, hv, hk r0 H2 h2⟩
theorem c_code_Count.gh {C : Ctx} {p_b : Sl} {p_n : Int} {K : Sl → Heap → Prop} {H : Heap} (h : c_code_Count C p_b p_n (fun r0 H2 => ∃ H0, Gh C H2 H0 ∧ K r0 H0) H) : c_code_Count C p_b p_n K H :=
  Spec.gh (Spec.mono h fun _ H2 ⟨r0, hv, H0, hg, hk⟩ => ⟨H0, hg, r0, hv, hk⟩)
def c_code_Str (C : Ctx) (p_b : Sl) (p_s : Str) (K : Sl → Heap → Prop) (H : Heap) : Prop :=
  Spec Tryd.prog C 17 [slv p_b, sv p_s] H (fun v H2 => ∃ (r0 : Sl), v = slv r0 ∧ K r0 H2)
theorem c_code_Str.mono {C : Ctx} {p_b : Sl} {p_s : Str} {K K2 : Sl → Heap → Prop} {H : Heap} (h : c_code_Str C p_b p_s K H) (hk : ∀ r0 H2, K r0 H2 → K2 r0 H2) : c_code_Str C p_b p_s K2 H :=
  Spec.mono h fun _ H2 ⟨r0, hv, h2⟩ => ⟨r0, hv, hk r0 H2 h2⟩
theorem c_code_Str.gh {C : Ctx} {p_b : Sl} {p_s : Str} {K : Sl → Heap → Prop} {H : Heap} (h : c_code_Str C p_b p_s (fun r0 H2 => ∃ H0, Gh C H2 H0 ∧ K r0 H0) H) : c_code_Str C p_b p_s K H :=
  Spec.gh (Spec.mono h fun _ H2 ⟨r0, hv, H0, hg, hk⟩ => ⟨H0, hg, r0, hv, hk⟩)
def c_code_Flag (C : Ctx) (p_b : Sl) (p_v : Bool) (K : Sl → Heap → Prop) (H : Heap) : Prop :=
  Spec Tryd.prog C 19 [slv p_b, .bool p_v] H (fun v H2 => ∃ (r0 : Sl), v = slv r0 ∧ K r0 H2)
theorem c_code_Flag.mono {C : Ctx} {p_b : Sl} {p_v : Bool} {K K2 : Sl → Heap → Prop} {H : Heap} (h : c_code_Flag C p_b p_v K H) (hk : ∀ r0 H2, K r0 H2 → K2 r0 H2) : c_code_Flag C p_b p_v K2 H :=
  Spec.mono h fun _ H2 ⟨r0, hv, h2⟩ => ⟨r0, hv, hk r0 H2 h2⟩
theorem c_code_Flag.gh {C : Ctx} {p_b : Sl} {p_v : Bool} {K : Sl → Heap → Prop} {H : Heap} (h : c_code_Flag C p_b p_v (fun r0 H2 => ∃ H0, Gh C H2 H0 ∧ K r0 H0) H) : c_code_Flag C p_b p_v K H :=
  Spec.gh (Spec.mono h fun _ H2 ⟨r0, hv, H0, hg, hk⟩ => ⟨H0, hg, r0, hv, hk⟩)
def c_code_Value (C : Ctx) (p_b : Sl) (p_v : T_api_Value) (K : Sl → Heap → Prop) (H : Heap) : Prop :=
  Spec Tryd.prog C 21 [slv p_b, .agg (T_api_Value.c p_v).toArray] H (fun v H2 => ∃ (r0 : Sl), v = slv r0 ∧ K r0 H2)
theorem c_code_Value.mono {C : Ctx} {p_b : Sl} {p_v : T_api_Value} {K K2 : Sl → Heap → Prop} {H : Heap} (h : c_code_Value C p_b p_v K H) (hk : ∀ r0 H2, K r0 H2 → K2 r0 H2) : c_code_Value C p_b p_v K2 H :=
  Spec.mono h fun _ H2 ⟨r0, hv, h2⟩ => ⟨r0, hv, hk r0 H2 h2⟩
theorem c_code_Value.gh {C : Ctx} {p_b : Sl} {p_v : T_api_Value} {K : Sl → Heap → Prop} {H : Heap} (h : c_code_Value C p_b p_v (fun r0 H2 => ∃ H0, Gh C H2 H0 ∧ K r0 H0) H) : c_code_Value C p_b p_v K H :=
  Spec.gh (Spec.mono h fun _ H2 ⟨r0, hv, H0, hg, hk⟩ => ⟨H0, hg, r0, hv, hk⟩)
def c_law03_behind (C : Ctx) (p_a : Sl) (p_b : Sl) (K : Sl → Heap → Prop) (H : Heap) : Prop :=
  Spec Tryd.prog C 25 [slv p_a, slv p_b] H (fun v H2 => ∃ (r0 : Sl), v = slv r0 ∧ K r0 H2)
theorem c_law03_behind.mono {C : Ctx} {p_a : Sl} {p_b : Sl} {K K2 : Sl → Heap → Prop} {H : Heap} (h : c_law03_behind C p_a p_b K H) (hk : ∀ r0 H2, K r0 H2 → K2 r0 H2) : c_law03_behind C p_a p_b K2 H :=
  Spec.mono h fun _ H2 ⟨r0, hv, h2⟩ => ⟨r0, hv, hk r0 H2 h2⟩
theorem c_law03_behind.gh {C : Ctx} {p_a : Sl} {p_b : Sl} {K : Sl → Heap → Prop} {H : Heap} (h : c_law03_behind C p_a p_b (fun r0 H2 => ∃ H0, Gh C H2 H0 ∧ K r0 H0) H) : c_law03_behind C p_a p_b K H :=
  Spec.gh (Spec.mono h fun _ H2 ⟨r0, hv, H0, hg, hk⟩ => ⟨H0, hg, r0, hv, hk⟩)
def c_code_NewReader (C : Ctx) (p_b : Sl) (K : Option (Nat × Nat) → Heap → Prop) (H : Heap) : Prop :=
  Spec Tryd.prog C 28 [slv p_b] H (fun v H2 => ∃ (r0 : Option (Nat × Nat)), v = pv r0 ∧ K r0 H2)
theorem c_code_NewReader.mono {C : Ctx} {p_b : Sl} {K K2 : Option (Nat × Nat) → Heap → Prop} {H : Heap} (h : c_code_NewReader C p_b K H) (hk : ∀ r0 H2, K r0 H2 → K2 r0 H2) : c_code_NewReader C p_b K2 H :=
  Spec.mono h fun _ H2 ⟨r0, hv, h2⟩ => ⟨r0, hv, hk r0 H2 h2⟩
theorem c_code_NewReader.gh {C : Ctx} {p_b : Sl} {K : Option (Nat × Nat) → Heap → Prop} {H : Heap} (h : c_code_NewReader C p_b (fun r0 H2 => ∃ H0, Gh C H2 H0 ∧ K r0 H0) H) : c_code_NewReader C p_b K H :=
  Spec.gh (Spec.mono h fun _ H2 ⟨r0, hv, H0, hg, hk⟩ => ⟨H0, hg, r0, hv, hk⟩)
def c_code_Reader_Left (C : Ctx) (p_r : Option (Nat × Nat)) (K : Int → Heap → Prop) (H : Heap) : Prop :=
  Spec Tryd.prog C 30 [pv p_r] H (fun v H2 => ∃ (r0 : Int), v = .int .i64 r0 ∧ K r0 H2)
theorem c_code_Reader_Left.mono {C : Ctx} {p_r : Option (Nat × Nat)} {K K2 : Int → Heap → Prop} {H : Heap} (h : c_code_Reader_Left C p_r K H) (hk : ∀ r0 H2, K r0 H2 → K2 r0 H2) : c_code_Reader_Left C p_r K2 H :=
  Spec.mono h fun _ H2 ⟨r0, hv, h2⟩ => ⟨r0, hv, hk r0 H2 h2⟩
theorem c_code_Reader_Left.gh {C : Ctx} {p_r : Option (Nat × Nat)} {K : Int → Heap → Prop} {H : Heap} (h : c_code_Reader_Left C p_r (fun r0 H2 => ∃ H0, Gh C H2 H0 ∧ K r0 H0) H) : c_code_Reader_Left C p_r K H :=
  Spec.gh (Spec.mono h fun _ H2 ⟨r0, hv, H0, hg, hk⟩ => ⟨H0, hg, r0, hv, hk⟩)
def c_code_Reader_Done (C : Ctx) (p_r : Option (Nat × Nat)) (K : Bool → Heap → Prop) (H : Heap) : Prop :=
  Spec Tryd.prog C 32 [pv p_r] H (fun v H2 => ∃ (r0 : Bool), v = .bool r0 ∧ K r0 H2)
theorem c_code_Reader_Done.mono {C : Ctx} {p_r : Option (Nat × Nat)} {K K2 : Bool → Heap → Prop} {H : Heap} (h : c_code_Reader_Done C p_r K H) (hk : ∀ r0 H2, K r0 H2 → K2 r0 H2) : c_code_Reader_Done C p_r K2 H :=
  Spec.mono h fun _ H2 ⟨r0, hv, h2⟩ => ⟨r0, hv, hk r0 H2 h2⟩
theorem c_code_Reader_Done.gh {C : Ctx} {p_r : Option (Nat × Nat)} {K : Bool → Heap → Prop} {H : Heap} (h : c_code_Reader_Done C p_r (fun r0 H2 => ∃ H0, Gh C H2 H0 ∧ K r0 H0) H) : c_code_Reader_Done C p_r K H :=
  Spec.gh (Spec.mono h fun _ H2 ⟨r0, hv, H0, hg, hk⟩ => ⟨H0, hg, r0, hv, hk⟩)
def c_code_Reader_Num (C : Ctx) (p_r : Option (Nat × Nat)) (K : Int → Heap → Prop) (H : Heap) : Prop :=
  Spec Tryd.prog C 33 [pv p_r] H (fun v H2 => ∃ (r0 : Int), v = .int .i64 r0 ∧ K r0 H2)
theorem c_code_Reader_Num.mono {C : Ctx} {p_r : Option (Nat × Nat)} {K K2 : Int → Heap → Prop} {H : Heap} (h : c_code_Reader_Num C p_r K H) (hk : ∀ r0 H2, K r0 H2 → K2 r0 H2) : c_code_Reader_Num C p_r K2 H :=
  Spec.mono h fun _ H2 ⟨r0, hv, h2⟩ => ⟨r0, hv, hk r0 H2 h2⟩
theorem c_code_Reader_Num.gh {C : Ctx} {p_r : Option (Nat × Nat)} {K : Int → Heap → Prop} {H : Heap} (h : c_code_Reader_Num C p_r (fun r0 H2 => ∃ H0, Gh C H2 H0 ∧ K r0 H0) H) : c_code_Reader_Num C p_r K H :=
  Spec.gh (Spec.mono h fun _ H2 ⟨r0, hv, H0, hg, hk⟩ => ⟨H0, hg, r0, hv, hk⟩)
def c_code_Reader_Str (C : Ctx) (p_r : Option (Nat × Nat)) (p_most : Int) (K : Str → Heap → Prop) (H : Heap) : Prop :=
  Spec Tryd.prog C 34 [pv p_r, .int .i64 p_most] H (fun v H2 => ∃ (r0 : Str), v = sv r0 ∧ K r0 H2)
theorem c_code_Reader_Str.mono {C : Ctx} {p_r : Option (Nat × Nat)} {p_most : Int} {K K2 : Str → Heap → Prop} {H : Heap} (h : c_code_Reader_Str C p_r p_most K H) (hk : ∀ r0 H2, K r0 H2 → K2 r0 H2) : c_code_Reader_Str C p_r p_most K2 H :=
  Spec.mono h fun _ H2 ⟨r0, hv, h2⟩ => ⟨r0, hv, hk r0 H2 h2⟩
theorem c_code_Reader_Str.gh {C : Ctx} {p_r : Option (Nat × Nat)} {p_most : Int} {K : Str → Heap → Prop} {H : Heap} (h : c_code_Reader_Str C p_r p_most (fun r0 H2 => ∃ H0, Gh C H2 H0 ∧ K r0 H0) H) : c_code_Reader_Str C p_r p_most K H :=
  Spec.gh (Spec.mono h fun _ H2 ⟨r0, hv, H0, hg, hk⟩ => ⟨H0, hg, r0, hv, hk⟩)
def c_ref02_Same (C : Ctx) (p_a : T_api_Value) (p_b : T_api_Value) (K : Bool → Heap → Prop) (H : Heap) : Prop :=
  Spec Tryd.prog C 37 [.agg (T_api_Value.c p_a).toArray, .agg (T_api_Value.c p_b).toArray] H (fun v H2 => ∃ (r0 : Bool), v = .bool r0 ∧ K r0 H2)
theorem c_ref02_Same.mono {C : Ctx} {p_a : T_api_Value} {p_b : T_api_Value} {K K2 : Bool → Heap → Prop} {H : Heap} (h : c_ref02_Same C p_a p_b K H) (hk : ∀ r0 H2, K r0 H2 → K2 r0 H2) : c_ref02_Same C p_a p_b K2 H :=
  Spec.mono h fun _ H2 ⟨r0, hv, h2⟩ => ⟨r0, hv, hk r0 H2 h2⟩
theorem c_ref02_Same.gh {C : Ctx} {p_a : T_api_Value} {p_b : T_api_Value} {K : Bool → Heap → Prop} {H : Heap} (h : c_ref02_Same C p_a p_b (fun r0 H2 => ∃ H0, Gh C H2 H0 ∧ K r0 H0) H) : c_ref02_Same C p_a p_b K H :=
  Spec.gh (Spec.mono h fun _ H2 ⟨r0, hv, H0, hg, hk⟩ => ⟨H0, hg, r0, hv, hk⟩)
def c_code_Reader_Value (C : Ctx) (p_r : Option (Nat × Nat)) (K : T_api_Value → Heap → Prop) (H : Heap) : Prop :=
  Spec Tryd.prog C 38 [pv p_r] H (fun v H2 => ∃ (r0 : T_api_Value), v = .agg (T_api_Value.c r0).toArray ∧ K r0 H2)
theorem c_code_Reader_Value.mono {C : Ctx} {p_r : Option (Nat × Nat)} {K K2 : T_api_Value → Heap → Prop} {H : Heap} (h : c_code_Reader_Value C p_r K H) (hk : ∀ r0 H2, K r0 H2 → K2 r0 H2) : c_code_Reader_Value C p_r K2 H :=
  Spec.mono h fun _ H2 ⟨r0, hv, h2⟩ => ⟨r0, hv, hk r0 H2 h2⟩
theorem c_code_Reader_Value.gh {C : Ctx} {p_r : Option (Nat × Nat)} {K : T_api_Value → Heap → Prop} {H : Heap} (h : c_code_Reader_Value C p_r (fun r0 H2 => ∃ H0, Gh C H2 H0 ∧ K r0 H0) H) : c_code_Reader_Value C p_r K H :=
  Spec.gh (Spec.mono h fun _ H2 ⟨r0, hv, H0, hg, hk⟩ => ⟨H0, hg, r0, hv, hk⟩)
def c_code_Reader_OK (C : Ctx) (p_r : Option (Nat × Nat)) (K : Bool → Heap → Prop) (H : Heap) : Prop :=
  Spec Tryd.prog C 39 [pv p_r] H (fun v H2 => ∃ (r0 : Bool), v = .bool r0 ∧ K r0 H2)
theorem c_code_Reader_OK.mono {C : Ctx} {p_r : Option (Nat × Nat)} {K K2 : Bool → Heap → Prop} {H : Heap} (h : c_code_Reader_OK C p_r K H) (hk : ∀ r0 H2, K r0 H2 → K2 r0 H2) : c_code_Reader_OK C p_r K2 H :=
  Spec.mono h fun _ H2 ⟨r0, hv, h2⟩ => ⟨r0, hv, hk r0 H2 h2⟩
theorem c_code_Reader_OK.gh {C : Ctx} {p_r : Option (Nat × Nat)} {K : Bool → Heap → Prop} {H : Heap} (h : c_code_Reader_OK C p_r (fun r0 H2 => ∃ H0, Gh C H2 H0 ∧ K r0 H0) H) : c_code_Reader_OK C p_r K H :=
  Spec.gh (Spec.mono h fun _ H2 ⟨r0, hv, H0, hg, hk⟩ => ⟨H0, hg, r0, hv, hk⟩)
def c_code_Reader_Count (C : Ctx) (p_r : Option (Nat × Nat)) (p_most : Int) (K : Int → Heap → Prop) (H : Heap) : Prop :=
  Spec Tryd.prog C 40 [pv p_r, .int .i64 p_most] H (fun v H2 => ∃ (r0 : Int), v = .int .i64 r0 ∧ K r0 H2)
theorem c_code_Reader_Count.mono {C : Ctx} {p_r : Option (Nat × Nat)} {p_most : Int} {K K2 : Int → Heap → Prop} {H : Heap} (h : c_code_Reader_Count C p_r p_most K H) (hk : ∀ r0 H2, K r0 H2 → K2 r0 H2) : c_code_Reader_Count C p_r p_most K2 H :=
  Spec.mono h fun _ H2 ⟨r0, hv, h2⟩ => ⟨r0, hv, hk r0 H2 h2⟩
theorem c_code_Reader_Count.gh {C : Ctx} {p_r : Option (Nat × Nat)} {p_most : Int} {K : Int → Heap → Prop} {H : Heap} (h : c_code_Reader_Count C p_r p_most (fun r0 H2 => ∃ H0, Gh C H2 H0 ∧ K r0 H0) H) : c_code_Reader_Count C p_r p_most K H :=
  Spec.gh (Spec.mono h fun _ H2 ⟨r0, hv, H0, hg, hk⟩ => ⟨H0, hg, r0, hv, hk⟩)
def c_code_Reader_Flag (C : Ctx) (p_r : Option (Nat × Nat)) (K : Bool → Heap → Prop) (H : Heap) : Prop :=
  Spec Tryd.prog C 41 [pv p_r] H (fun v H2 => ∃ (r0 : Bool), v = .bool r0 ∧ K r0 H2)
theorem c_code_Reader_Flag.mono {C : Ctx} {p_r : Option (Nat × Nat)} {K K2 : Bool → Heap → Prop} {H : Heap} (h : c_code_Reader_Flag C p_r K H) (hk : ∀ r0 H2, K r0 H2 → K2 r0 H2) : c_code_Reader_Flag C p_r K2 H :=
  Spec.mono h fun _ H2 ⟨r0, hv, h2⟩ => ⟨r0, hv, hk r0 H2 h2⟩
theorem c_code_Reader_Flag.gh {C : Ctx} {p_r : Option (Nat × Nat)} {K : Bool → Heap → Prop} {H : Heap} (h : c_code_Reader_Flag C p_r (fun r0 H2 => ∃ H0, Gh C H2 H0 ∧ K r0 H0) H) : c_code_Reader_Flag C p_r K H :=
  Spec.gh (Spec.mono h fun _ H2 ⟨r0, hv, H0, hg, hk⟩ => ⟨H0, hg, r0, hv, hk⟩)
def c_law03_parts (C : Ctx) (p_v : T_api_Value) (K : Int → Heap → Prop) (H : Heap) : Prop :=
  Spec Tryd.prog C 42 [.agg (T_api_Value.c p_v).toArray] H (fun v H2 => ∃ (r0 : Int), v = .int .i64 r0 ∧ K r0 H2)
theorem c_law03_parts.mono {C : Ctx} {p_v : T_api_Value} {K K2 : Int → Heap → Prop} {H : Heap} (h : c_law03_parts C p_v K H) (hk : ∀ r0 H2, K r0 H2 → K2 r0 H2) : c_law03_parts C p_v K2 H :=
  Spec.mono h fun _ H2 ⟨r0, hv, h2⟩ => ⟨r0, hv, hk r0 H2 h2⟩
theorem c_law03_parts.gh {C : Ctx} {p_v : T_api_Value} {K : Int → Heap → Prop} {H : Heap} (h : c_law03_parts C p_v (fun r0 H2 => ∃ H0, Gh C H2 H0 ∧ K r0 H0) H) : c_law03_parts C p_v K H :=
  Spec.gh (Spec.mono h fun _ H2 ⟨r0, hv, H0, hg, hk⟩ => ⟨H0, hg, r0, hv, hk⟩)
def c_code_behind (C : Ctx) (p_b : Sl) (K : Option (Nat × Nat) → Heap → Prop) (H : Heap) : Prop :=
  Spec Tryd.prog C 43 [slv p_b] H (fun v H2 => ∃ (r0 : Option (Nat × Nat)), v = pv r0 ∧ K r0 H2)
theorem c_code_behind.mono {C : Ctx} {p_b : Sl} {K K2 : Option (Nat × Nat) → Heap → Prop} {H : Heap} (h : c_code_behind C p_b K H) (hk : ∀ r0 H2, K r0 H2 → K2 r0 H2) : c_code_behind C p_b K2 H :=
  Spec.mono h fun _ H2 ⟨r0, hv, h2⟩ => ⟨r0, hv, hk r0 H2 h2⟩
theorem c_code_behind.gh {C : Ctx} {p_b : Sl} {K : Option (Nat × Nat) → Heap → Prop} {H : Heap} (h : c_code_behind C p_b (fun r0 H2 => ∃ H0, Gh C H2 H0 ∧ K r0 H0) H) : c_code_behind C p_b K H :=
  Spec.gh (Spec.mono h fun _ H2 ⟨r0, hv, H0, hg, hk⟩ => ⟨H0, hg, r0, hv, hk⟩)
def c_code_pen_num (C : Ctx) (p_p : Option (Nat × Nat)) (p_n : Int) (K : Heap → Prop) (H : Heap) : Prop :=
  Spec Tryd.prog C 44 [pv p_p, .int .i64 p_n] H (fun v H2 => v = .tuple #[] ∧ K H2)
theorem c_code_pen_num.mono {C : Ctx} {p_p : Option (Nat × Nat)} {p_n : Int} {K K2 : Heap → Prop} {H : Heap} (h : c_code_pen_num C p_p p_n K H) (hk : ∀  H2, K  H2 → K2  H2) : c_code_pen_num C p_p p_n K2 H :=
  Spec.mono h fun _ H2 ⟨hv, h2⟩ => ⟨hv, hk H2 h2⟩
theorem c_code_pen_num.gh {C : Ctx} {p_p : Option (Nat × Nat)} {p_n : Int} {K : Heap → Prop} {H : Heap} (h : c_code_pen_num C p_p p_n (fun  H2 => ∃ H0, Gh C H2 H0 ∧ K  H0) H) : c_code_pen_num C p_p p_n K H :=
  Spec.gh (Spec.mono h fun _ H2 ⟨hv, H0, hg, hk⟩ => ⟨H0, hg, hv, hk⟩)
def c_code_pen_number (C : Ctx) (p_p : Option (Nat × Nat)) (p_first : Int) (p_u : Int) (K : Heap → Prop) (H : Heap) : Prop :=
  Spec Tryd.prog C 48 [pv p_p, .int .u8 p_first, .int .u64 p_u] H (fun v H2 => v = .tuple #[] ∧ K H2)
theorem c_code_pen_number.mono {C : Ctx} {p_p : Option (Nat × Nat)} {p_first : Int} {p_u : Int} {K K2 : Heap → Prop} {H : Heap} (h : c_code_pen_number C p_p p_first p_u K H) (hk : ∀  H2, K  H2 → K2  H2) : c_code_pen_number C p_p p_first p_u K2 H :=
  Spec.mono h fun _ H2 ⟨hv, h2⟩ => ⟨hv, hk H2 h2⟩
theorem c_code_pen_number.gh {C : Ctx} {p_p : Option (Nat × Nat)} {p_first : Int} {p_u : Int} {K : Heap → Prop} {H : Heap} (h : c_code_pen_number C p_p p_first p_u (fun  H2 => ∃ H0, Gh C H2 H0 ∧ K  H0) H) : c_code_pen_number C p_p p_first p_u K H :=
  Spec.gh (Spec.mono h fun _ H2 ⟨hv, H0, hg, hk⟩ => ⟨H0, hg, hv, hk⟩)
def c_code_pen_text (C : Ctx) (p_p : Option (Nat × Nat)) (p_s : Str) (K : Heap → Prop) (H : Heap) : Prop :=
  Spec Tryd.prog C 49 [pv p_p, sv p_s] H (fun v H2 => v = .tuple #[] ∧ K H2)
theorem c_code_pen_text.mono {C : Ctx} {p_p : Option (Nat × Nat)} {p_s : Str} {K K2 : Heap → Prop} {H : Heap} (h : c_code_pen_text C p_p p_s K H) (hk : ∀  H2, K  H2 → K2  H2) : c_code_pen_text C p_p p_s K2 H :=
  Spec.mono h fun _ H2 ⟨hv, h2⟩ => ⟨hv, hk H2 h2⟩
theorem c_code_pen_text.gh {C : Ctx} {p_p : Option (Nat × Nat)} {p_s : Str} {K : Heap → Prop} {H : Heap} (h : c_code_pen_text C p_p p_s (fun  H2 => ∃ H0, Gh C H2 H0 ∧ K  H0) H) : c_code_pen_text C p_p p_s K H :=
  Spec.gh (Spec.mono h fun _ H2 ⟨hv, H0, hg, hk⟩ => ⟨H0, hg, hv, hk⟩)
def c_code_pen_put (C : Ctx) (p_p : Option (Nat × Nat)) (p_l : Sl) (K : Heap → Prop) (H : Heap) : Prop :=
  Spec Tryd.prog C 50 [pv p_p, slv p_l] H (fun v H2 => v = .tuple #[] ∧ K H2)
theorem c_code_pen_put.mono {C : Ctx} {p_p : Option (Nat × Nat)} {p_l : Sl} {K K2 : Heap → Prop} {H : Heap} (h : c_code_pen_put C p_p p_l K H) (hk : ∀  H2, K  H2 → K2  H2) : c_code_pen_put C p_p p_l K2 H :=
  Spec.mono h fun _ H2 ⟨hv, h2⟩ => ⟨hv, hk H2 h2⟩
theorem c_code_pen_put.gh {C : Ctx} {p_p : Option (Nat × Nat)} {p_l : Sl} {K : Heap → Prop} {H : Heap} (h : c_code_pen_put C p_p p_l (fun  H2 => ∃ H0, Gh C H2 H0 ∧ K  H0) H) : c_code_pen_put C p_p p_l K H :=
  Spec.gh (Spec.mono h fun _ H2 ⟨hv, H0, hg, hk⟩ => ⟨H0, hg, hv, hk⟩)
def c_value_Check (C : Ctx) (p_v : T_api_Value) (K : Int → Heap → Prop) (H : Heap) : Prop :=
  Spec Tryd.prog C 51 [.agg (T_api_Value.c p_v).toArray] H (fun v H2 => ∃ (r0 : Int), v = .int .i64 r0 ∧ K r0 H2)
theorem c_value_Check.mono {C : Ctx} {p_v : T_api_Value} {K K2 : Int → Heap → Prop} {H : Heap} (h : c_value_Check C p_v K H) (hk : ∀ r0 H2, K r0 H2 → K2 r0 H2) : c_value_Check C p_v K2 H :=
  Spec.mono h fun _ H2 ⟨r0, hv, h2⟩ => ⟨r0, hv, hk r0 H2 h2⟩
theorem c_value_Check.gh {C : Ctx} {p_v : T_api_Value} {K : Int → Heap → Prop} {H : Heap} (h : c_value_Check C p_v (fun r0 H2 => ∃ H0, Gh C H2 H0 ∧ K r0 H0) H) : c_value_Check C p_v K H :=
  Spec.gh (Spec.mono h fun _ H2 ⟨r0, hv, H0, hg, hk⟩ => ⟨H0, hg, r0, hv, hk⟩)
def c_code_pen_value (C : Ctx) (p_p : Option (Nat × Nat)) (p_v : T_api_Value) (K : Heap → Prop) (H : Heap) : Prop :=
  Spec Tryd.prog C 52 [pv p_p, .agg (T_api_Value.c p_v).toArray] H (fun v H2 => v = .tuple #[] ∧ K H2)
theorem c_code_pen_value.mono {C : Ctx} {p_p : Option (Nat × Nat)} {p_v : T_api_Value} {K K2 : Heap → Prop} {H : Heap} (h : c_code_pen_value C p_p p_v K H) (hk : ∀  H2, K  H2 → K2  H2) : c_code_pen_value C p_p p_v K2 H :=
  Spec.mono h fun _ H2 ⟨hv, h2⟩ => ⟨hv, hk H2 h2⟩
theorem c_code_pen_value.gh {C : Ctx} {p_p : Option (Nat × Nat)} {p_v : T_api_Value} {K : Heap → Prop} {H : Heap} (h : c_code_pen_value C p_p p_v (fun  H2 => ∃ H0, Gh C H2 H0 ∧ K  H0) H) : c_code_pen_value C p_p p_v K H :=
  Spec.gh (Spec.mono h fun _ H2 ⟨hv, H0, hg, hk⟩ => ⟨H0, hg, hv, hk⟩)
def c_slices_Clone_byte_byte (C : Ctx) (p_s : Sl) (K : Sl → Heap → Prop) (H : Heap) : Prop :=
  Spec Tryd.prog C 61 [slv p_s] H (fun v H2 => ∃ (r0 : Sl), v = slv r0 ∧ K r0 H2)
theorem c_slices_Clone_byte_byte.mono {C : Ctx} {p_s : Sl} {K K2 : Sl → Heap → Prop} {H : Heap} (h : c_slices_Clone_byte_byte C p_s K H) (hk : ∀ r0 H2, K r0 H2 → K2 r0 H2) : c_slices_Clone_byte_byte C p_s K2 H :=
  Spec.mono h fun _ H2 ⟨r0, hv, h2⟩ => ⟨r0, hv, hk r0 H2 h2⟩
theorem c_slices_Clone_byte_byte.gh {C : Ctx} {p_s : Sl} {K : Sl → Heap → Prop} {H : Heap} (h : c_slices_Clone_byte_byte C p_s (fun r0 H2 => ∃ H0, Gh C H2 H0 ∧ K r0 H0) H) : c_slices_Clone_byte_byte C p_s K H :=
  Spec.gh (Spec.mono h fun _ H2 ⟨r0, hv, H0, hg, hk⟩ => ⟨H0, hg, r0, hv, hk⟩)
def c_code_Reader_next (C : Ctx) (p_r : Option (Nat × Nat)) (K : Int → Heap → Prop) (H : Heap) : Prop :=
  Spec Tryd.prog C 62 [pv p_r] H (fun v H2 => ∃ (r0 : Int), v = .int .u8 r0 ∧ K r0 H2)
theorem c_code_Reader_next.mono {C : Ctx} {p_r : Option (Nat × Nat)} {K K2 : Int → Heap → Prop} {H : Heap} (h : c_code_Reader_next C p_r K H) (hk : ∀ r0 H2, K r0 H2 → K2 r0 H2) : c_code_Reader_next C p_r K2 H :=
  Spec.mono h fun _ H2 ⟨r0, hv, h2⟩ => ⟨r0, hv, hk r0 H2 h2⟩
theorem c_code_Reader_next.gh {C : Ctx} {p_r : Option (Nat × Nat)} {K : Int → Heap → Prop} {H : Heap} (h : c_code_Reader_next C p_r (fun r0 H2 => ∃ H0, Gh C H2 H0 ∧ K r0 H0) H) : c_code_Reader_next C p_r K H :=
  Spec.gh (Spec.mono h fun _ H2 ⟨r0, hv, H0, hg, hk⟩ => ⟨H0, hg, r0, hv, hk⟩)
def c_code_Reader_flip (C : Ctx) (p_r : Option (Nat × Nat)) (p_is : Bool) (K : Heap → Prop) (H : Heap) : Prop :=
  Spec Tryd.prog C 63 [pv p_r, .bool p_is] H (fun v H2 => v = .tuple #[] ∧ K H2)
theorem c_code_Reader_flip.mono {C : Ctx} {p_r : Option (Nat × Nat)} {p_is : Bool} {K K2 : Heap → Prop} {H : Heap} (h : c_code_Reader_flip C p_r p_is K H) (hk : ∀  H2, K  H2 → K2  H2) : c_code_Reader_flip C p_r p_is K2 H :=
  Spec.mono h fun _ H2 ⟨hv, h2⟩ => ⟨hv, hk H2 h2⟩
theorem c_code_Reader_flip.gh {C : Ctx} {p_r : Option (Nat × Nat)} {p_is : Bool} {K : Heap → Prop} {H : Heap} (h : c_code_Reader_flip C p_r p_is (fun  H2 => ∃ H0, Gh C H2 H0 ∧ K  H0) H) : c_code_Reader_flip C p_r p_is K H :=
  Spec.gh (Spec.mono h fun _ H2 ⟨hv, H0, hg, hk⟩ => ⟨H0, hg, hv, hk⟩)
def c_code_Reader_number (C : Ctx) (p_r : Option (Nat × Nat)) (p_k : Int) (p_most : Int) (K : Int → Heap → Prop) (H : Heap) : Prop :=
  Spec Tryd.prog C 64 [pv p_r, .int .i64 p_k, .int .i64 p_most] H (fun v H2 => ∃ (r0 : Int), v = .int .u64 r0 ∧ K r0 H2)
theorem c_code_Reader_number.mono {C : Ctx} {p_r : Option (Nat × Nat)} {p_k : Int} {p_most : Int} {K K2 : Int → Heap → Prop} {H : Heap} (h : c_code_Reader_number C p_r p_k p_most K H) (hk : ∀ r0 H2, K r0 H2 → K2 r0 H2) : c_code_Reader_number C p_r p_k p_most K2 H :=
  Spec.mono h fun _ H2 ⟨r0, hv, h2⟩ => ⟨r0, hv, hk r0 H2 h2⟩
theorem c_code_Reader_number.gh {C : Ctx} {p_r : Option (Nat × Nat)} {p_k : Int} {p_most : Int} {K : Int → Heap → Prop} {H : Heap} (h : c_code_Reader_number C p_r p_k p_most (fun r0 H2 => ∃ H0, Gh C H2 H0 ∧ K r0 H0) H) : c_code_Reader_number C p_r p_k p_most K H :=
  Spec.gh (Spec.mono h fun _ H2 ⟨r0, hv, H0, hg, hk⟩ => ⟨H0, hg, r0, hv, hk⟩)
def c_code_Reader_ask (C : Ctx) (p_r : Option (Nat × Nat)) (p_ok : Bool) (K : Bool → Heap → Prop) (H : Heap) : Prop :=
  Spec Tryd.prog C 65 [pv p_r, .bool p_ok] H (fun v H2 => ∃ (r0 : Bool), v = .bool r0 ∧ K r0 H2)
theorem c_code_Reader_ask.mono {C : Ctx} {p_r : Option (Nat × Nat)} {p_ok : Bool} {K K2 : Bool → Heap → Prop} {H : Heap} (h : c_code_Reader_ask C p_r p_ok K H) (hk : ∀ r0 H2, K r0 H2 → K2 r0 H2) : c_code_Reader_ask C p_r p_ok K2 H :=
  Spec.mono h fun _ H2 ⟨r0, hv, h2⟩ => ⟨r0, hv, hk r0 H2 h2⟩
theorem c_code_Reader_ask.gh {C : Ctx} {p_r : Option (Nat × Nat)} {p_ok : Bool} {K : Bool → Heap → Prop} {H : Heap} (h : c_code_Reader_ask C p_r p_ok (fun r0 H2 => ∃ H0, Gh C H2 H0 ∧ K r0 H0) H) : c_code_Reader_ask C p_r p_ok K H :=
  Spec.gh (Spec.mono h fun _ H2 ⟨r0, hv, H0, hg, hk⟩ => ⟨H0, hg, r0, hv, hk⟩)
def c_ref02_SameRow (C : Ctx) (p_a : Sl) (p_b : Sl) (K : Bool → Heap → Prop) (H : Heap) : Prop :=
  Spec Tryd.prog C 66 [slv p_a, slv p_b] H (fun v H2 => ∃ (r0 : Bool), v = .bool r0 ∧ K r0 H2)
theorem c_ref02_SameRow.mono {C : Ctx} {p_a : Sl} {p_b : Sl} {K K2 : Bool → Heap → Prop} {H : Heap} (h : c_ref02_SameRow C p_a p_b K H) (hk : ∀ r0 H2, K r0 H2 → K2 r0 H2) : c_ref02_SameRow C p_a p_b K2 H :=
  Spec.mono h fun _ H2 ⟨r0, hv, h2⟩ => ⟨r0, hv, hk r0 H2 h2⟩
theorem c_ref02_SameRow.gh {C : Ctx} {p_a : Sl} {p_b : Sl} {K : Bool → Heap → Prop} {H : Heap} (h : c_ref02_SameRow C p_a p_b (fun r0 H2 => ∃ H0, Gh C H2 H0 ∧ K r0 H0) H) : c_ref02_SameRow C p_a p_b K H :=
  Spec.gh (Spec.mono h fun _ H2 ⟨r0, hv, H0, hg, hk⟩ => ⟨H0, hg, r0, hv, hk⟩)
def c_code_Reader_value (C : Ctx) (p_r : Option (Nat × Nat)) (p_deep : Int) (K : T_api_Value → Heap → Prop) (H : Heap) : Prop :=
  Spec Tryd.prog C 67 [pv p_r, .int .i64 p_deep] H (fun v H2 => ∃ (r0 : T_api_Value), v = .agg (T_api_Value.c r0).toArray ∧ K r0 H2)
theorem c_code_Reader_value.mono {C : Ctx} {p_r : Option (Nat × Nat)} {p_deep : Int} {K K2 : T_api_Value → Heap → Prop} {H : Heap} (h : c_code_Reader_value C p_r p_deep K H) (hk : ∀ r0 H2, K r0 H2 → K2 r0 H2) : c_code_Reader_value C p_r p_deep K2 H :=
  Spec.mono h fun _ H2 ⟨r0, hv, h2⟩ => ⟨r0, hv, hk r0 H2 h2⟩
theorem c_code_Reader_value.gh {C : Ctx} {p_r : Option (Nat × Nat)} {p_deep : Int} {K : T_api_Value → Heap → Prop} {H : Heap} (h : c_code_Reader_value C p_r p_deep (fun r0 H2 => ∃ H0, Gh C H2 H0 ∧ K r0 H0) H) : c_code_Reader_value C p_r p_deep K H :=
  Spec.gh (Spec.mono h fun _ H2 ⟨r0, hv, H0, hg, hk⟩ => ⟨H0, hg, r0, hv, hk⟩)
def c_code_pen_flip (C : Ctx) (p_p : Option (Nat × Nat)) (p_is : Bool) (K : Heap → Prop) (H : Heap) : Prop :=
  Spec Tryd.prog C 68 [pv p_p, .bool p_is] H (fun v H2 => v = .tuple #[] ∧ K H2)
theorem c_code_pen_flip.mono {C : Ctx} {p_p : Option (Nat × Nat)} {p_is : Bool} {K K2 : Heap → Prop} {H : Heap} (h : c_code_pen_flip C p_p p_is K H) (hk : ∀  H2, K  H2 → K2  H2) : c_code_pen_flip C p_p p_is K2 H :=
  Spec.mono h fun _ H2 ⟨hv, h2⟩ => ⟨hv, hk H2 h2⟩
theorem c_code_pen_flip.gh {C : Ctx} {p_p : Option (Nat × Nat)} {p_is : Bool} {K : Heap → Prop} {H : Heap} (h : c_code_pen_flip C p_p p_is (fun  H2 => ∃ H0, Gh C H2 H0 ∧ K  H0) H) : c_code_pen_flip C p_p p_is K H :=
  Spec.gh (Spec.mono h fun _ H2 ⟨hv, H0, hg, hk⟩ => ⟨H0, hg, hv, hk⟩)
def c_math_bits_Len64 (C : Ctx) (p_x : Int) (K : Int → Heap → Prop) (H : Heap) : Prop :=
  Spec Tryd.prog C 69 [.int .u64 p_x] H (fun v H2 => ∃ (r0 : Int), v = .int .i64 r0 ∧ K r0 H2)
theorem c_math_bits_Len64.mono {C : Ctx} {p_x : Int} {K K2 : Int → Heap → Prop} {H : Heap} (h : c_math_bits_Len64 C p_x K H) (hk : ∀ r0 H2, K r0 H2 → K2 r0 H2) : c_math_bits_Len64 C p_x K2 H :=
  Spec.mono h fun _ H2 ⟨r0, hv, h2⟩ => ⟨r0, hv, hk r0 H2 h2⟩
theorem c_math_bits_Len64.gh {C : Ctx} {p_x : Int} {K : Int → Heap → Prop} {H : Heap} (h : c_math_bits_Len64 C p_x (fun r0 H2 => ∃ H0, Gh C H2 H0 ∧ K r0 H0) H) : c_math_bits_Len64 C p_x K H :=
  Spec.gh (Spec.mono h fun _ H2 ⟨r0, hv, H0, hg, hk⟩ => ⟨H0, hg, r0, hv, hk⟩)
def c_value_depth (C : Ctx) (p_v : T_api_Value) (p_most : Int) (K : Int → Heap → Prop) (H : Heap) : Prop :=
  Spec Tryd.prog C 70 [.agg (T_api_Value.c p_v).toArray, .int .i64 p_most] H (fun v H2 => ∃ (r0 : Int), v = .int .i64 r0 ∧ K r0 H2)
theorem c_value_depth.mono {C : Ctx} {p_v : T_api_Value} {p_most : Int} {K K2 : Int → Heap → Prop} {H : Heap} (h : c_value_depth C p_v p_most K H) (hk : ∀ r0 H2, K r0 H2 → K2 r0 H2) : c_value_depth C p_v p_most K2 H :=
  Spec.mono h fun _ H2 ⟨r0, hv, h2⟩ => ⟨r0, hv, hk r0 H2 h2⟩
theorem c_value_depth.gh {C : Ctx} {p_v : T_api_Value} {p_most : Int} {K : Int → Heap → Prop} {H : Heap} (h : c_value_depth C p_v p_most (fun r0 H2 => ∃ H0, Gh C H2 H0 ∧ K r0 H0) H) : c_value_depth C p_v p_most K H :=
  Spec.gh (Spec.mono h fun _ H2 ⟨r0, hv, H0, hg, hk⟩ => ⟨H0, hg, r0, hv, hk⟩)
def c_value_item_look (C : Ctx) (p_v : T_api_Value) (K : Bool → Bool → Heap → Prop) (H : Heap) : Prop :=
  Spec Tryd.prog C 71 [.agg (T_api_Value.c p_v).toArray] H (fun v H2 => ∃ (r0 : Bool) (r1 : Bool), v = .tuple #[.bool r0, .bool r1] ∧ K r0 r1 H2)
theorem c_value_item_look.mono {C : Ctx} {p_v : T_api_Value} {K K2 : Bool → Bool → Heap → Prop} {H : Heap} (h : c_value_item_look C p_v K H) (hk : ∀ r0 r1 H2, K r0 r1 H2 → K2 r0 r1 H2) : c_value_item_look C p_v K2 H :=
  Spec.mono h fun _ H2 ⟨r0, r1, hv, h2⟩ => ⟨r0, r1, hv, hk r0 r1 H2 h2⟩
theorem c_value_item_look.gh {C : Ctx} {p_v : T_api_Value} {K : Bool → Bool → Heap → Prop} {H : Heap} (h : c_value_item_look C p_v (fun r0 r1 H2 => ∃ H0, Gh C H2 H0 ∧ K r0 r1 H0) H) : c_value_item_look C p_v K H :=
  Spec.gh (Spec.mono h fun _ H2 ⟨r0, r1, hv, H0, hg, hk⟩ => ⟨H0, hg, r0, r1, hv, hk⟩)
def c_code_pen_truth (C : Ctx) (p_p : Option (Nat × Nat)) (p_v : T_api_Value) (K : Heap → Prop) (H : Heap) : Prop :=
  Spec Tryd.prog C 72 [pv p_p, .agg (T_api_Value.c p_v).toArray] H (fun v H2 => v = .tuple #[] ∧ K H2)
theorem c_code_pen_truth.mono {C : Ctx} {p_p : Option (Nat × Nat)} {p_v : T_api_Value} {K K2 : Heap → Prop} {H : Heap} (h : c_code_pen_truth C p_p p_v K H) (hk : ∀  H2, K  H2 → K2  H2) : c_code_pen_truth C p_p p_v K2 H :=
  Spec.mono h fun _ H2 ⟨hv, h2⟩ => ⟨hv, hk H2 h2⟩
theorem c_code_pen_truth.gh {C : Ctx} {p_p : Option (Nat × Nat)} {p_v : T_api_Value} {K : Heap → Prop} {H : Heap} (h : c_code_pen_truth C p_p p_v (fun  H2 => ∃ H0, Gh C H2 H0 ∧ K  H0) H) : c_code_pen_truth C p_p p_v K H :=
  Spec.gh (Spec.mono h fun _ H2 ⟨hv, H0, hg, hk⟩ => ⟨H0, hg, hv, hk⟩)
def c_code_pen_whole (C : Ctx) (p_p : Option (Nat × Nat)) (p_v : T_api_Value) (K : Heap → Prop) (H : Heap) : Prop :=
  Spec Tryd.prog C 73 [pv p_p, .agg (T_api_Value.c p_v).toArray] H (fun v H2 => v = .tuple #[] ∧ K H2)
theorem c_code_pen_whole.mono {C : Ctx} {p_p : Option (Nat × Nat)} {p_v : T_api_Value} {K K2 : Heap → Prop} {H : Heap} (h : c_code_pen_whole C p_p p_v K H) (hk : ∀  H2, K  H2 → K2  H2) : c_code_pen_whole C p_p p_v K2 H :=
  Spec.mono h fun _ H2 ⟨hv, h2⟩ => ⟨hv, hk H2 h2⟩
theorem c_code_pen_whole.gh {C : Ctx} {p_p : Option (Nat × Nat)} {p_v : T_api_Value} {K : Heap → Prop} {H : Heap} (h : c_code_pen_whole C p_p p_v (fun  H2 => ∃ H0, Gh C H2 H0 ∧ K  H0) H) : c_code_pen_whole C p_p p_v K H :=
  Spec.gh (Spec.mono h fun _ H2 ⟨hv, H0, hg, hk⟩ => ⟨H0, hg, hv, hk⟩)
def c_code_pen_big (C : Ctx) (p_p : Option (Nat × Nat)) (p_v : T_api_Value) (K : Heap → Prop) (H : Heap) : Prop :=
  Spec Tryd.prog C 74 [pv p_p, .agg (T_api_Value.c p_v).toArray] H (fun v H2 => v = .tuple #[] ∧ K H2)
theorem c_code_pen_big.mono {C : Ctx} {p_p : Option (Nat × Nat)} {p_v : T_api_Value} {K K2 : Heap → Prop} {H : Heap} (h : c_code_pen_big C p_p p_v K H) (hk : ∀  H2, K  H2 → K2  H2) : c_code_pen_big C p_p p_v K2 H :=
  Spec.mono h fun _ H2 ⟨hv, h2⟩ => ⟨hv, hk H2 h2⟩
theorem c_code_pen_big.gh {C : Ctx} {p_p : Option (Nat × Nat)} {p_v : T_api_Value} {K : Heap → Prop} {H : Heap} (h : c_code_pen_big C p_p p_v (fun  H2 => ∃ H0, Gh C H2 H0 ∧ K  H0) H) : c_code_pen_big C p_p p_v K H :=
  Spec.gh (Spec.mono h fun _ H2 ⟨hv, H0, hg, hk⟩ => ⟨H0, hg, hv, hk⟩)
def c_code_pen_words (C : Ctx) (p_p : Option (Nat × Nat)) (p_v : T_api_Value) (K : Heap → Prop) (H : Heap) : Prop :=
  Spec Tryd.prog C 75 [pv p_p, .agg (T_api_Value.c p_v).toArray] H (fun v H2 => v = .tuple #[] ∧ K H2)
theorem c_code_pen_words.mono {C : Ctx} {p_p : Option (Nat × Nat)} {p_v : T_api_Value} {K K2 : Heap → Prop} {H : Heap} (h : c_code_pen_words C p_p p_v K H) (hk : ∀  H2, K  H2 → K2  H2) : c_code_pen_words C p_p p_v K2 H :=
  Spec.mono h fun _ H2 ⟨hv, h2⟩ => ⟨hv, hk H2 h2⟩
theorem c_code_pen_words.gh {C : Ctx} {p_p : Option (Nat × Nat)} {p_v : T_api_Value} {K : Heap → Prop} {H : Heap} (h : c_code_pen_words C p_p p_v (fun  H2 => ∃ H0, Gh C H2 H0 ∧ K  H0) H) : c_code_pen_words C p_p p_v K H :=
  Spec.gh (Spec.mono h fun _ H2 ⟨hv, H0, hg, hk⟩ => ⟨H0, hg, hv, hk⟩)
def c_code_pen_list (C : Ctx) (p_p : Option (Nat × Nat)) (p_v : T_api_Value) (K : Heap → Prop) (H : Heap) : Prop :=
  Spec Tryd.prog C 76 [pv p_p, .agg (T_api_Value.c p_v).toArray] H (fun v H2 => v = .tuple #[] ∧ K H2)
theorem c_code_pen_list.mono {C : Ctx} {p_p : Option (Nat × Nat)} {p_v : T_api_Value} {K K2 : Heap → Prop} {H : Heap} (h : c_code_pen_list C p_p p_v K H) (hk : ∀  H2, K  H2 → K2  H2) : c_code_pen_list C p_p p_v K2 H :=
  Spec.mono h fun _ H2 ⟨hv, h2⟩ => ⟨hv, hk H2 h2⟩
theorem c_code_pen_list.gh {C : Ctx} {p_p : Option (Nat × Nat)} {p_v : T_api_Value} {K : Heap → Prop} {H : Heap} (h : c_code_pen_list C p_p p_v (fun  H2 => ∃ H0, Gh C H2 H0 ∧ K  H0) H) : c_code_pen_list C p_p p_v K H :=
  Spec.gh (Spec.mono h fun _ H2 ⟨hv, H0, hg, hk⟩ => ⟨H0, hg, hv, hk⟩)
def c_code_pen_cons (C : Ctx) (p_p : Option (Nat × Nat)) (p_v : T_api_Value) (K : Heap → Prop) (H : Heap) : Prop :=
  Spec Tryd.prog C 77 [pv p_p, .agg (T_api_Value.c p_v).toArray] H (fun v H2 => v = .tuple #[] ∧ K H2)
theorem c_code_pen_cons.mono {C : Ctx} {p_p : Option (Nat × Nat)} {p_v : T_api_Value} {K K2 : Heap → Prop} {H : Heap} (h : c_code_pen_cons C p_p p_v K H) (hk : ∀  H2, K  H2 → K2  H2) : c_code_pen_cons C p_p p_v K2 H :=
  Spec.mono h fun _ H2 ⟨hv, h2⟩ => ⟨hv, hk H2 h2⟩
theorem c_code_pen_cons.gh {C : Ctx} {p_p : Option (Nat × Nat)} {p_v : T_api_Value} {K : Heap → Prop} {H : Heap} (h : c_code_pen_cons C p_p p_v (fun  H2 => ∃ H0, Gh C H2 H0 ∧ K  H0) H) : c_code_pen_cons C p_p p_v K H :=
  Spec.gh (Spec.mono h fun _ H2 ⟨hv, H0, hg, hk⟩ => ⟨H0, hg, hv, hk⟩)
def c_code_Reader_truth (C : Ctx) (p_r : Option (Nat × Nat)) (p_v : Option (Nat × Nat)) (p_deep : Int) (K : Heap → Prop) (H : Heap) : Prop :=
  Spec Tryd.prog C 85 [pv p_r, pv p_v, .int .i64 p_deep] H (fun v H2 => v = .tuple #[] ∧ K H2)
theorem c_code_Reader_truth.mono {C : Ctx} {p_r : Option (Nat × Nat)} {p_v : Option (Nat × Nat)} {p_deep : Int} {K K2 : Heap → Prop} {H : Heap} (h : c_code_Reader_truth C p_r p_v p_deep K H) (hk : ∀  H2, K  H2 → K2  H2) : c_code_Reader_truth C p_r p_v p_deep K2 H :=
  Spec.mono h fun _ H2 ⟨hv, h2⟩ => ⟨hv, hk H2 h2⟩
theorem c_code_Reader_truth.gh {C : Ctx} {p_r : Option (Nat × Nat)} {p_v : Option (Nat × Nat)} {p_deep : Int} {K : Heap → Prop} {H : Heap} (h : c_code_Reader_truth C p_r p_v p_deep (fun  H2 => ∃ H0, Gh C H2 H0 ∧ K  H0) H) : c_code_Reader_truth C p_r p_v p_deep K H :=
  Spec.gh (Spec.mono h fun _ H2 ⟨hv, H0, hg, hk⟩ => ⟨H0, hg, hv, hk⟩)
def c_code_Reader_whole (C : Ctx) (p_r : Option (Nat × Nat)) (p_v : Option (Nat × Nat)) (p_deep : Int) (K : Heap → Prop) (H : Heap) : Prop :=
  Spec Tryd.prog C 86 [pv p_r, pv p_v, .int .i64 p_deep] H (fun v H2 => v = .tuple #[] ∧ K H2)
theorem c_code_Reader_whole.mono {C : Ctx} {p_r : Option (Nat × Nat)} {p_v : Option (Nat × Nat)} {p_deep : Int} {K K2 : Heap → Prop} {H : Heap} (h : c_code_Reader_whole C p_r p_v p_deep K H) (hk : ∀  H2, K  H2 → K2  H2) : c_code_Reader_whole C p_r p_v p_deep K2 H :=
  Spec.mono h fun _ H2 ⟨hv, h2⟩ => ⟨hv, hk H2 h2⟩
theorem c_code_Reader_whole.gh {C : Ctx} {p_r : Option (Nat × Nat)} {p_v : Option (Nat × Nat)} {p_deep : Int} {K : Heap → Prop} {H : Heap} (h : c_code_Reader_whole C p_r p_v p_deep (fun  H2 => ∃ H0, Gh C H2 H0 ∧ K  H0) H) : c_code_Reader_whole C p_r p_v p_deep K H :=
  Spec.gh (Spec.mono h fun _ H2 ⟨hv, H0, hg, hk⟩ => ⟨H0, hg, hv, hk⟩)
def c_code_Reader_big (C : Ctx) (p_r : Option (Nat × Nat)) (p_v : Option (Nat × Nat)) (p_deep : Int) (K : Heap → Prop) (H : Heap) : Prop :=
  Spec Tryd.prog C 87 [pv p_r, pv p_v, .int .i64 p_deep] H (fun v H2 => v = .tuple #[] ∧ K H2)
theorem c_code_Reader_big.mono {C : Ctx} {p_r : Option (Nat × Nat)} {p_v : Option (Nat × Nat)} {p_deep : Int} {K K2 : Heap → Prop} {H : Heap} (h : c_code_Reader_big C p_r p_v p_deep K H) (hk : ∀  H2, K  H2 → K2  H2) : c_code_Reader_big C p_r p_v p_deep K2 H :=
  Spec.mono h fun _ H2 ⟨hv, h2⟩ => ⟨hv, hk H2 h2⟩
theorem c_code_Reader_big.gh {C : Ctx} {p_r : Option (Nat × Nat)} {p_v : Option (Nat × Nat)} {p_deep : Int} {K : Heap → Prop} {H : Heap} (h : c_code_Reader_big C p_r p_v p_deep (fun  H2 => ∃ H0, Gh C H2 H0 ∧ K  H0) H) : c_code_Reader_big C p_r p_v p_deep K H :=
  Spec.gh (Spec.mono h fun _ H2 ⟨hv, H0, hg, hk⟩ => ⟨H0, hg, hv, hk⟩)
def c_code_Reader_words (C : Ctx) (p_r : Option (Nat × Nat)) (p_v : Option (Nat × Nat)) (p_deep : Int) (K : Heap → Prop) (H : Heap) : Prop :=
  Spec Tryd.prog C 88 [pv p_r, pv p_v, .int .i64 p_deep] H (fun v H2 => v = .tuple #[] ∧ K H2)
theorem c_code_Reader_words.mono {C : Ctx} {p_r : Option (Nat × Nat)} {p_v : Option (Nat × Nat)} {p_deep : Int} {K K2 : Heap → Prop} {H : Heap} (h : c_code_Reader_words C p_r p_v p_deep K H) (hk : ∀  H2, K  H2 → K2  H2) : c_code_Reader_words C p_r p_v p_deep K2 H :=
  Spec.mono h fun _ H2 ⟨hv, h2⟩ => ⟨hv, hk H2 h2⟩
theorem c_code_Reader_words.gh {C : Ctx} {p_r : Option (Nat × Nat)} {p_v : Option (Nat × Nat)} {p_deep : Int} {K : Heap → Prop} {H : Heap} (h : c_code_Reader_words C p_r p_v p_deep (fun  H2 => ∃ H0, Gh C H2 H0 ∧ K  H0) H) : c_code_Reader_words C p_r p_v p_deep K H :=
  Spec.gh (Spec.mono h fun _ H2 ⟨hv, H0, hg, hk⟩ => ⟨H0, hg, hv, hk⟩)
def c_code_Reader_list (C : Ctx) (p_r : Option (Nat × Nat)) (p_v : Option (Nat × Nat)) (p_deep : Int) (K : Heap → Prop) (H : Heap) : Prop :=
  Spec Tryd.prog C 89 [pv p_r, pv p_v, .int .i64 p_deep] H (fun v H2 => v = .tuple #[] ∧ K H2)
theorem c_code_Reader_list.mono {C : Ctx} {p_r : Option (Nat × Nat)} {p_v : Option (Nat × Nat)} {p_deep : Int} {K K2 : Heap → Prop} {H : Heap} (h : c_code_Reader_list C p_r p_v p_deep K H) (hk : ∀  H2, K  H2 → K2  H2) : c_code_Reader_list C p_r p_v p_deep K2 H :=
  Spec.mono h fun _ H2 ⟨hv, h2⟩ => ⟨hv, hk H2 h2⟩
theorem c_code_Reader_list.gh {C : Ctx} {p_r : Option (Nat × Nat)} {p_v : Option (Nat × Nat)} {p_deep : Int} {K : Heap → Prop} {H : Heap} (h : c_code_Reader_list C p_r p_v p_deep (fun  H2 => ∃ H0, Gh C H2 H0 ∧ K  H0) H) : c_code_Reader_list C p_r p_v p_deep K H :=
  Spec.gh (Spec.mono h fun _ H2 ⟨hv, H0, hg, hk⟩ => ⟨H0, hg, hv, hk⟩)
def c_code_Reader_cons (C : Ctx) (p_r : Option (Nat × Nat)) (p_v : Option (Nat × Nat)) (p_deep : Int) (K : Heap → Prop) (H : Heap) : Prop :=
  Spec Tryd.prog C 90 [pv p_r, pv p_v, .int .i64 p_deep] H (fun v H2 => v = .tuple #[] ∧ K H2)
theorem c_code_Reader_cons.mono {C : Ctx} {p_r : Option (Nat × Nat)} {p_v : Option (Nat × Nat)} {p_deep : Int} {K K2 : Heap → Prop} {H : Heap} (h : c_code_Reader_cons C p_r p_v p_deep K H) (hk : ∀  H2, K  H2 → K2  H2) : c_code_Reader_cons C p_r p_v p_deep K2 H :=
  Spec.mono h fun _ H2 ⟨hv, h2⟩ => ⟨hv, hk H2 h2⟩
theorem c_code_Reader_cons.gh {C : Ctx} {p_r : Option (Nat × Nat)} {p_v : Option (Nat × Nat)} {p_deep : Int} {K : Heap → Prop} {H : Heap} (h : c_code_Reader_cons C p_r p_v p_deep (fun  H2 => ∃ H0, Gh C H2 H0 ∧ K  H0) H) : c_code_Reader_cons C p_r p_v p_deep K H :=
  Spec.gh (Spec.mono h fun _ H2 ⟨hv, H0, hg, hk⟩ => ⟨H0, hg, hv, hk⟩)
def c_value_number (C : Ctx) (p_s : Str) (K : Int → Bool → Heap → Prop) (H : Heap) : Prop :=
  Spec Tryd.prog C 91 [sv p_s] H (fun v H2 => ∃ (r0 : Int) (r1 : Bool), v = .tuple #[.int .i64 r0, .bool r1] ∧ K r0 r1 H2)
theorem c_value_number.mono {C : Ctx} {p_s : Str} {K K2 : Int → Bool → Heap → Prop} {H : Heap} (h : c_value_number C p_s K H) (hk : ∀ r0 r1 H2, K r0 r1 H2 → K2 r0 r1 H2) : c_value_number C p_s K2 H :=
  Spec.mono h fun _ H2 ⟨r0, r1, hv, h2⟩ => ⟨r0, r1, hv, hk r0 r1 H2 h2⟩
theorem c_value_number.gh {C : Ctx} {p_s : Str} {K : Int → Bool → Heap → Prop} {H : Heap} (h : c_value_number C p_s (fun r0 r1 H2 => ∃ H0, Gh C H2 H0 ∧ K r0 r1 H0) H) : c_value_number C p_s K H :=
  Spec.gh (Spec.mono h fun _ H2 ⟨r0, r1, hv, H0, hg, hk⟩ => ⟨H0, hg, r0, r1, hv, hk⟩)
def c_strings_Cut (C : Ctx) (p_s : Str) (p_sep : Str) (K : Str → Str → Bool → Heap → Prop) (H : Heap) : Prop :=
  Spec Tryd.prog C 92 [sv p_s, sv p_sep] H (fun v H2 => ∃ (r0 : Str) (r1 : Str) (r2 : Bool), v = .tuple #[sv r0, sv r1, .bool r2] ∧ K r0 r1 r2 H2)
theorem c_strings_Cut.mono {C : Ctx} {p_s : Str} {p_sep : Str} {K K2 : Str → Str → Bool → Heap → Prop} {H : Heap} (h : c_strings_Cut C p_s p_sep K H) (hk : ∀ r0 r1 r2 H2, K r0 r1 r2 H2 → K2 r0 r1 r2 H2) : c_strings_Cut C p_s p_sep K2 H :=
  Spec.mono h fun _ H2 ⟨r0, r1, r2, hv, h2⟩ => ⟨r0, r1, r2, hv, hk r0 r1 r2 H2 h2⟩
theorem c_strings_Cut.gh {C : Ctx} {p_s : Str} {p_sep : Str} {K : Str → Str → Bool → Heap → Prop} {H : Heap} (h : c_strings_Cut C p_s p_sep (fun r0 r1 r2 H2 => ∃ H0, Gh C H2 H0 ∧ K r0 r1 r2 H0) H) : c_strings_Cut C p_s p_sep K H :=
  Spec.gh (Spec.mono h fun _ H2 ⟨r0, r1, r2, hv, H0, hg, hk⟩ => ⟨H0, hg, r0, r1, r2, hv, hk⟩)
def c_value_name (C : Ctx) (p_s : Str) (K : Bool → Heap → Prop) (H : Heap) : Prop :=
  Spec Tryd.prog C 93 [sv p_s] H (fun v H2 => ∃ (r0 : Bool), v = .bool r0 ∧ K r0 H2)
theorem c_value_name.mono {C : Ctx} {p_s : Str} {K K2 : Bool → Heap → Prop} {H : Heap} (h : c_value_name C p_s K H) (hk : ∀ r0 H2, K r0 H2 → K2 r0 H2) : c_value_name C p_s K2 H :=
  Spec.mono h fun _ H2 ⟨r0, hv, h2⟩ => ⟨r0, hv, hk r0 H2 h2⟩
theorem c_value_name.gh {C : Ctx} {p_s : Str} {K : Bool → Heap → Prop} {H : Heap} (h : c_value_name C p_s (fun r0 H2 => ∃ H0, Gh C H2 H0 ∧ K r0 H0) H) : c_value_name C p_s K H :=
  Spec.gh (Spec.mono h fun _ H2 ⟨r0, hv, H0, hg, hk⟩ => ⟨H0, hg, r0, hv, hk⟩)
def c_strings_CutPrefix (C : Ctx) (p_s : Str) (p_prefix : Str) (K : Str → Bool → Heap → Prop) (H : Heap) : Prop :=
  Spec Tryd.prog C 94 [sv p_s, sv p_prefix] H (fun v H2 => ∃ (r0 : Str) (r1 : Bool), v = .tuple #[sv r0, .bool r1] ∧ K r0 r1 H2)
theorem c_strings_CutPrefix.mono {C : Ctx} {p_s : Str} {p_prefix : Str} {K K2 : Str → Bool → Heap → Prop} {H : Heap} (h : c_strings_CutPrefix C p_s p_prefix K H) (hk : ∀ r0 r1 H2, K r0 r1 H2 → K2 r0 r1 H2) : c_strings_CutPrefix C p_s p_prefix K2 H :=
  Spec.mono h fun _ H2 ⟨r0, r1, hv, h2⟩ => ⟨r0, r1, hv, hk r0 r1 H2 h2⟩
theorem c_strings_CutPrefix.gh {C : Ctx} {p_s : Str} {p_prefix : Str} {K : Str → Bool → Heap → Prop} {H : Heap} (h : c_strings_CutPrefix C p_s p_prefix (fun r0 r1 H2 => ∃ H0, Gh C H2 H0 ∧ K r0 r1 H0) H) : c_strings_CutPrefix C p_s p_prefix K H :=
  Spec.gh (Spec.mono h fun _ H2 ⟨r0, r1, hv, H0, hg, hk⟩ => ⟨H0, hg, r0, r1, hv, hk⟩)
def c_strings_TrimPrefix (C : Ctx) (p_s : Str) (p_prefix : Str) (K : Str → Heap → Prop) (H : Heap) : Prop :=
  Spec Tryd.prog C 96 [sv p_s, sv p_prefix] H (fun v H2 => ∃ (r0 : Str), v = sv r0 ∧ K r0 H2)
theorem c_strings_TrimPrefix.mono {C : Ctx} {p_s : Str} {p_prefix : Str} {K K2 : Str → Heap → Prop} {H : Heap} (h : c_strings_TrimPrefix C p_s p_prefix K H) (hk : ∀ r0 H2, K r0 H2 → K2 r0 H2) : c_strings_TrimPrefix C p_s p_prefix K2 H :=
  Spec.mono h fun _ H2 ⟨r0, hv, h2⟩ => ⟨r0, hv, hk r0 H2 h2⟩
theorem c_strings_TrimPrefix.gh {C : Ctx} {p_s : Str} {p_prefix : Str} {K : Str → Heap → Prop} {H : Heap} (h : c_strings_TrimPrefix C p_s p_prefix (fun r0 H2 => ∃ H0, Gh C H2 H0 ∧ K r0 H0) H) : c_strings_TrimPrefix C p_s p_prefix K H :=
  Spec.gh (Spec.mono h fun _ H2 ⟨r0, hv, H0, hg, hk⟩ => ⟨H0, hg, r0, hv, hk⟩)
def c_strings_Trim (C : Ctx) (p_s : Str) (p_cutset : Str) (K : Str → Heap → Prop) (H : Heap) : Prop :=
  Spec Tryd.prog C 97 [sv p_s, sv p_cutset] H (fun v H2 => ∃ (r0 : Str), v = sv r0 ∧ K r0 H2)
theorem c_strings_Trim.mono {C : Ctx} {p_s : Str} {p_cutset : Str} {K K2 : Str → Heap → Prop} {H : Heap} (h : c_strings_Trim C p_s p_cutset K H) (hk : ∀ r0 H2, K r0 H2 → K2 r0 H2) : c_strings_Trim C p_s p_cutset K2 H :=
  Spec.mono h fun _ H2 ⟨r0, hv, h2⟩ => ⟨r0, hv, hk r0 H2 h2⟩
theorem c_strings_Trim.gh {C : Ctx} {p_s : Str} {p_cutset : Str} {K : Str → Heap → Prop} {H : Heap} (h : c_strings_Trim C p_s p_cutset (fun r0 H2 => ∃ H0, Gh C H2 H0 ∧ K r0 H0) H) : c_strings_Trim C p_s p_cutset K H :=
  Spec.gh (Spec.mono h fun _ H2 ⟨r0, hv, H0, hg, hk⟩ => ⟨H0, hg, r0, hv, hk⟩)
def c_internal_stringslite_Cut (C : Ctx) (p_s : Str) (p_sep : Str) (K : Str → Str → Bool → Heap → Prop) (H : Heap) : Prop :=
  Spec Tryd.prog C 98 [sv p_s, sv p_sep] H (fun v H2 => ∃ (r0 : Str) (r1 : Str) (r2 : Bool), v = .tuple #[sv r0, sv r1, .bool r2] ∧ K r0 r1 r2 H2)
theorem c_internal_stringslite_Cut.mono {C : Ctx} {p_s : Str} {p_sep : Str} {K K2 : Str → Str → Bool → Heap → Prop} {H : Heap} (h : c_internal_stringslite_Cut C p_s p_sep K H) (hk : ∀ r0 r1 r2 H2, K r0 r1 r2 H2 → K2 r0 r1 r2 H2) : c_internal_stringslite_Cut C p_s p_sep K2 H :=
  Spec.mono h fun _ H2 ⟨r0, r1, r2, hv, h2⟩ => ⟨r0, r1, r2, hv, hk r0 r1 r2 H2 h2⟩
theorem c_internal_stringslite_Cut.gh {C : Ctx} {p_s : Str} {p_sep : Str} {K : Str → Str → Bool → Heap → Prop} {H : Heap} (h : c_internal_stringslite_Cut C p_s p_sep (fun r0 r1 r2 H2 => ∃ H0, Gh C H2 H0 ∧ K r0 r1 r2 H0) H) : c_internal_stringslite_Cut C p_s p_sep K H :=
  Spec.gh (Spec.mono h fun _ H2 ⟨r0, r1, r2, hv, H0, hg, hk⟩ => ⟨H0, hg, r0, r1, r2, hv, hk⟩)
def c_internal_stringslite_CutPrefix (C : Ctx) (p_s : Str) (p_prefix : Str) (K : Str → Bool → Heap → Prop) (H : Heap) : Prop :=
  Spec Tryd.prog C 99 [sv p_s, sv p_prefix] H (fun v H2 => ∃ (r0 : Str) (r1 : Bool), v = .tuple #[sv r0, .bool r1] ∧ K r0 r1 H2)
theorem c_internal_stringslite_CutPrefix.mono {C : Ctx} {p_s : Str} {p_prefix : Str} {K K2 : Str → Bool → Heap → Prop} {H : Heap} (h : c_internal_stringslite_CutPrefix C p_s p_prefix K H) (hk : ∀ r0 r1 H2, K r0 r1 H2 → K2 r0 r1 H2) : c_internal_stringslite_CutPrefix C p_s p_prefix K2 H :=
  Spec.mono h fun _ H2 ⟨r0, r1, hv, h2⟩ => ⟨r0, r1, hv, hk r0 r1 H2 h2⟩
theorem c_internal_stringslite_CutPrefix.gh {C : Ctx} {p_s : Str} {p_prefix : Str} {K : Str → Bool → Heap → Prop} {H : Heap} (h : c_internal_stringslite_CutPrefix C p_s p_prefix (fun r0 r1 H2 => ∃ H0, Gh C H2 H0 ∧ K r0 r1 H0) H) : c_internal_stringslite_CutPrefix C p_s p_prefix K H :=
  Spec.gh (Spec.mono h fun _ H2 ⟨r0, r1, hv, H0, hg, hk⟩ => ⟨H0, hg, r0, r1, hv, hk⟩)
def c_internal_stringslite_TrimPrefix (C : Ctx) (p_s : Str) (p_prefix : Str) (K : Str → Heap → Prop) (H : Heap) : Prop :=
  Spec Tryd.prog C 101 [sv p_s, sv p_prefix] H (fun v H2 => ∃ (r0 : Str), v = sv r0 ∧ K r0 H2)
theorem c_internal_stringslite_TrimPrefix.mono {C : Ctx} {p_s : Str} {p_prefix : Str} {K K2 : Str → Heap → Prop} {H : Heap} (h : c_internal_stringslite_TrimPrefix C p_s p_prefix K H) (hk : ∀ r0 H2, K r0 H2 → K2 r0 H2) : c_internal_stringslite_TrimPrefix C p_s p_prefix K2 H :=
  Spec.mono h fun _ H2 ⟨r0, hv, h2⟩ => ⟨r0, hv, hk r0 H2 h2⟩
theorem c_internal_stringslite_TrimPrefix.gh {C : Ctx} {p_s : Str} {p_prefix : Str} {K : Str → Heap → Prop} {H : Heap} (h : c_internal_stringslite_TrimPrefix C p_s p_prefix (fun r0 H2 => ∃ H0, Gh C H2 H0 ∧ K r0 H0) H) : c_internal_stringslite_TrimPrefix C p_s p_prefix K H :=
  Spec.gh (Spec.mono h fun _ H2 ⟨r0, hv, H0, hg, hk⟩ => ⟨H0, hg, r0, hv, hk⟩)
def c_strings_trimLeftByte (C : Ctx) (p_s : Str) (p_c : Int) (K : Str → Heap → Prop) (H : Heap) : Prop :=
  Spec Tryd.prog C 102 [sv p_s, .int .u8 p_c] H (fun v H2 => ∃ (r0 : Str), v = sv r0 ∧ K r0 H2)
theorem c_strings_trimLeftByte.mono {C : Ctx} {p_s : Str} {p_c : Int} {K K2 : Str → Heap → Prop} {H : Heap} (h : c_strings_trimLeftByte C p_s p_c K H) (hk : ∀ r0 H2, K r0 H2 → K2 r0 H2) : c_strings_trimLeftByte C p_s p_c K2 H :=
  Spec.mono h fun _ H2 ⟨r0, hv, h2⟩ => ⟨r0, hv, hk r0 H2 h2⟩
theorem c_strings_trimLeftByte.gh {C : Ctx} {p_s : Str} {p_c : Int} {K : Str → Heap → Prop} {H : Heap} (h : c_strings_trimLeftByte C p_s p_c (fun r0 H2 => ∃ H0, Gh C H2 H0 ∧ K r0 H0) H) : c_strings_trimLeftByte C p_s p_c K H :=
  Spec.gh (Spec.mono h fun _ H2 ⟨r0, hv, H0, hg, hk⟩ => ⟨H0, hg, r0, hv, hk⟩)
def c_strings_trimRightByte (C : Ctx) (p_s : Str) (p_c : Int) (K : Str → Heap → Prop) (H : Heap) : Prop :=
  Spec Tryd.prog C 103 [sv p_s, .int .u8 p_c] H (fun v H2 => ∃ (r0 : Str), v = sv r0 ∧ K r0 H2)
theorem c_strings_trimRightByte.mono {C : Ctx} {p_s : Str} {p_c : Int} {K K2 : Str → Heap → Prop} {H : Heap} (h : c_strings_trimRightByte C p_s p_c K H) (hk : ∀ r0 H2, K r0 H2 → K2 r0 H2) : c_strings_trimRightByte C p_s p_c K2 H :=
  Spec.mono h fun _ H2 ⟨r0, hv, h2⟩ => ⟨r0, hv, hk r0 H2 h2⟩
theorem c_strings_trimRightByte.gh {C : Ctx} {p_s : Str} {p_c : Int} {K : Str → Heap → Prop} {H : Heap} (h : c_strings_trimRightByte C p_s p_c (fun r0 H2 => ∃ H0, Gh C H2 H0 ∧ K r0 H0) H) : c_strings_trimRightByte C p_s p_c K H :=
  Spec.gh (Spec.mono h fun _ H2 ⟨r0, hv, H0, hg, hk⟩ => ⟨H0, hg, r0, hv, hk⟩)
def c_strings_makeASCIISet (C : Ctx) (p_chars : Str) (K : List Value → Bool → Heap → Prop) (H : Heap) : Prop :=
  Spec Tryd.prog C 104 [sv p_chars] H (fun v H2 => ∃ (r0 : List Value) (r1 : Bool), v = .tuple #[.agg (List.toArray r0), .bool r1] ∧ K r0 r1 H2)
theorem c_strings_makeASCIISet.mono {C : Ctx} {p_chars : Str} {K K2 : List Value → Bool → Heap → Prop} {H : Heap} (h : c_strings_makeASCIISet C p_chars K H) (hk : ∀ r0 r1 H2, K r0 r1 H2 → K2 r0 r1 H2) : c_strings_makeASCIISet C p_chars K2 H :=
  Spec.mono h fun _ H2 ⟨r0, r1, hv, h2⟩ => ⟨r0, r1, hv, hk r0 r1 H2 h2⟩
theorem c_strings_makeASCIISet.gh {C : Ctx} {p_chars : Str} {K : List Value → Bool → Heap → Prop} {H : Heap} (h : c_strings_makeASCIISet C p_chars (fun r0 r1 H2 => ∃ H0, Gh C H2 H0 ∧ K r0 r1 H0) H) : c_strings_makeASCIISet C p_chars K H :=
  Spec.gh (Spec.mono h fun _ H2 ⟨r0, r1, hv, H0, hg, hk⟩ => ⟨H0, hg, r0, r1, hv, hk⟩)
def c_strings_trimLeftASCII (C : Ctx) (p_s : Str) (p_as : Option (Nat × Nat)) (K : Str → Heap → Prop) (H : Heap) : Prop :=
  Spec Tryd.prog C 105 [sv p_s, pv p_as] H (fun v H2 => ∃ (r0 : Str), v = sv r0 ∧ K r0 H2)
theorem c_strings_trimLeftASCII.mono {C : Ctx} {p_s : Str} {p_as : Option (Nat × Nat)} {K K2 : Str → Heap → Prop} {H : Heap} (h : c_strings_trimLeftASCII C p_s p_as K H) (hk : ∀ r0 H2, K r0 H2 → K2 r0 H2) : c_strings_trimLeftASCII C p_s p_as K2 H :=
  Spec.mono h fun _ H2 ⟨r0, hv, h2⟩ => ⟨r0, hv, hk r0 H2 h2⟩
theorem c_strings_trimLeftASCII.gh {C : Ctx} {p_s : Str} {p_as : Option (Nat × Nat)} {K : Str → Heap → Prop} {H : Heap} (h : c_strings_trimLeftASCII C p_s p_as (fun r0 H2 => ∃ H0, Gh C H2 H0 ∧ K r0 H0) H) : c_strings_trimLeftASCII C p_s p_as K H :=
  Spec.gh (Spec.mono h fun _ H2 ⟨r0, hv, H0, hg, hk⟩ => ⟨H0, hg, r0, hv, hk⟩)
def c_strings_trimRightASCII (C : Ctx) (p_s : Str) (p_as : Option (Nat × Nat)) (K : Str → Heap → Prop) (H : Heap) : Prop :=
  Spec Tryd.prog C 106 [sv p_s, pv p_as] H (fun v H2 => ∃ (r0 : Str), v = sv r0 ∧ K r0 H2)
theorem c_strings_trimRightASCII.mono {C : Ctx} {p_s : Str} {p_as : Option (Nat × Nat)} {K K2 : Str → Heap → Prop} {H : Heap} (h : c_strings_trimRightASCII C p_s p_as K H) (hk : ∀ r0 H2, K r0 H2 → K2 r0 H2) : c_strings_trimRightASCII C p_s p_as K2 H :=
  Spec.mono h fun _ H2 ⟨r0, hv, h2⟩ => ⟨r0, hv, hk r0 H2 h2⟩
theorem c_strings_trimRightASCII.gh {C : Ctx} {p_s : Str} {p_as : Option (Nat × Nat)} {K : Str → Heap → Prop} {H : Heap} (h : c_strings_trimRightASCII C p_s p_as (fun r0 H2 => ∃ H0, Gh C H2 H0 ∧ K r0 H0) H) : c_strings_trimRightASCII C p_s p_as K H :=
  Spec.gh (Spec.mono h fun _ H2 ⟨r0, hv, H0, hg, hk⟩ => ⟨H0, hg, r0, hv, hk⟩)
def c_strings_trimLeftUnicode (C : Ctx) (p_s : Str) (p_cutset : Str) (K : Str → Heap → Prop) (H : Heap) : Prop :=
  Spec Tryd.prog C 107 [sv p_s, sv p_cutset] H (fun v H2 => ∃ (r0 : Str), v = sv r0 ∧ K r0 H2)
theorem c_strings_trimLeftUnicode.mono {C : Ctx} {p_s : Str} {p_cutset : Str} {K K2 : Str → Heap → Prop} {H : Heap} (h : c_strings_trimLeftUnicode C p_s p_cutset K H) (hk : ∀ r0 H2, K r0 H2 → K2 r0 H2) : c_strings_trimLeftUnicode C p_s p_cutset K2 H :=
  Spec.mono h fun _ H2 ⟨r0, hv, h2⟩ => ⟨r0, hv, hk r0 H2 h2⟩
theorem c_strings_trimLeftUnicode.gh {C : Ctx} {p_s : Str} {p_cutset : Str} {K : Str → Heap → Prop} {H : Heap} (h : c_strings_trimLeftUnicode C p_s p_cutset (fun r0 H2 => ∃ H0, Gh C H2 H0 ∧ K r0 H0) H) : c_strings_trimLeftUnicode C p_s p_cutset K H :=
  Spec.gh (Spec.mono h fun _ H2 ⟨r0, hv, H0, hg, hk⟩ => ⟨H0, hg, r0, hv, hk⟩)
def c_strings_trimRightUnicode (C : Ctx) (p_s : Str) (p_cutset : Str) (K : Str → Heap → Prop) (H : Heap) : Prop :=
  Spec Tryd.prog C 108 [sv p_s, sv p_cutset] H (fun v H2 => ∃ (r0 : Str), v = sv r0 ∧ K r0 H2)
theorem c_strings_trimRightUnicode.mono {C : Ctx} {p_s : Str} {p_cutset : Str} {K K2 : Str → Heap → Prop} {H : Heap} (h : c_strings_trimRightUnicode C p_s p_cutset K H) (hk : ∀ r0 H2, K r0 H2 → K2 r0 H2) : c_strings_trimRightUnicode C p_s p_cutset K2 H :=
  Spec.mono h fun _ H2 ⟨r0, hv, h2⟩ => ⟨r0, hv, hk r0 H2 h2⟩
theorem c_strings_trimRightUnicode.gh {C : Ctx} {p_s : Str} {p_cutset : Str} {K : Str → Heap → Prop} {H : Heap} (h : c_strings_trimRightUnicode C p_s p_cutset (fun r0 H2 => ∃ H0, Gh C H2 H0 ∧ K r0 H0) H) : c_strings_trimRightUnicode C p_s p_cutset K H :=
  Spec.gh (Spec.mono h fun _ H2 ⟨r0, hv, H0, hg, hk⟩ => ⟨H0, hg, r0, hv, hk⟩)
def c_internal_stringslite_Index (C : Ctx) (p_s : Str) (p_substr : Str) (K : Int → Heap → Prop) (H : Heap) : Prop :=
  Spec Tryd.prog C 109 [sv p_s, sv p_substr] H (fun v H2 => ∃ (r0 : Int), v = .int .i64 r0 ∧ K r0 H2)
theorem c_internal_stringslite_Index.mono {C : Ctx} {p_s : Str} {p_substr : Str} {K K2 : Int → Heap → Prop} {H : Heap} (h : c_internal_stringslite_Index C p_s p_substr K H) (hk : ∀ r0 H2, K r0 H2 → K2 r0 H2) : c_internal_stringslite_Index C p_s p_substr K2 H :=
  Spec.mono h fun _ H2 ⟨r0, hv, h2⟩ => ⟨r0, hv, hk r0 H2 h2⟩
theorem c_internal_stringslite_Index.gh {C : Ctx} {p_s : Str} {p_substr : Str} {K : Int → Heap → Prop} {H : Heap} (h : c_internal_stringslite_Index C p_s p_substr (fun r0 H2 => ∃ H0, Gh C H2 H0 ∧ K r0 H0) H) : c_internal_stringslite_Index C p_s p_substr K H :=
  Spec.gh (Spec.mono h fun _ H2 ⟨r0, hv, H0, hg, hk⟩ => ⟨H0, hg, r0, hv, hk⟩)
def c_internal_stringslite_HasPrefix (C : Ctx) (p_s : Str) (p_prefix : Str) (K : Bool → Heap → Prop) (H : Heap) : Prop :=
  Spec Tryd.prog C 110 [sv p_s, sv p_prefix] H (fun v H2 => ∃ (r0 : Bool), v = .bool r0 ∧ K r0 H2)
theorem c_internal_stringslite_HasPrefix.mono {C : Ctx} {p_s : Str} {p_prefix : Str} {K K2 : Bool → Heap → Prop} {H : Heap} (h : c_internal_stringslite_HasPrefix C p_s p_prefix K H) (hk : ∀ r0 H2, K r0 H2 → K2 r0 H2) : c_internal_stringslite_HasPrefix C p_s p_prefix K2 H :=
  Spec.mono h fun _ H2 ⟨r0, hv, h2⟩ => ⟨r0, hv, hk r0 H2 h2⟩
theorem c_internal_stringslite_HasPrefix.gh {C : Ctx} {p_s : Str} {p_prefix : Str} {K : Bool → Heap → Prop} {H : Heap} (h : c_internal_stringslite_HasPrefix C p_s p_prefix (fun r0 H2 => ∃ H0, Gh C H2 H0 ∧ K r0 H0) H) : c_internal_stringslite_HasPrefix C p_s p_prefix K H :=
  Spec.gh (Spec.mono h fun _ H2 ⟨r0, hv, H0, hg, hk⟩ => ⟨H0, hg, r0, hv, hk⟩)
def c_strings_asciiSet_contains (C : Ctx) (p_as : Option (Nat × Nat)) (p_c : Int) (K : Bool → Heap → Prop) (H : Heap) : Prop :=
  Spec Tryd.prog C 111 [pv p_as, .int .u8 p_c] H (fun v H2 => ∃ (r0 : Bool), v = .bool r0 ∧ K r0 H2)
theorem c_strings_asciiSet_contains.mono {C : Ctx} {p_as : Option (Nat × Nat)} {p_c : Int} {K K2 : Bool → Heap → Prop} {H : Heap} (h : c_strings_asciiSet_contains C p_as p_c K H) (hk : ∀ r0 H2, K r0 H2 → K2 r0 H2) : c_strings_asciiSet_contains C p_as p_c K2 H :=
  Spec.mono h fun _ H2 ⟨r0, hv, h2⟩ => ⟨r0, hv, hk r0 H2 h2⟩
theorem c_strings_asciiSet_contains.gh {C : Ctx} {p_as : Option (Nat × Nat)} {p_c : Int} {K : Bool → Heap → Prop} {H : Heap} (h : c_strings_asciiSet_contains C p_as p_c (fun r0 H2 => ∃ H0, Gh C H2 H0 ∧ K r0 H0) H) : c_strings_asciiSet_contains C p_as p_c K H :=
  Spec.gh (Spec.mono h fun _ H2 ⟨r0, hv, H0, hg, hk⟩ => ⟨H0, hg, r0, hv, hk⟩)
def c_internal_stringslite_IndexByte (C : Ctx) (p_s : Str) (p_c : Int) (K : Int → Heap → Prop) (H : Heap) : Prop :=
  Spec Tryd.prog C 115 [sv p_s, .int .u8 p_c] H (fun v H2 => ∃ (r0 : Int), v = .int .i64 r0 ∧ K r0 H2)
theorem c_internal_stringslite_IndexByte.mono {C : Ctx} {p_s : Str} {p_c : Int} {K K2 : Int → Heap → Prop} {H : Heap} (h : c_internal_stringslite_IndexByte C p_s p_c K H) (hk : ∀ r0 H2, K r0 H2 → K2 r0 H2) : c_internal_stringslite_IndexByte C p_s p_c K2 H :=
  Spec.mono h fun _ H2 ⟨r0, hv, h2⟩ => ⟨r0, hv, hk r0 H2 h2⟩
theorem c_internal_stringslite_IndexByte.gh {C : Ctx} {p_s : Str} {p_c : Int} {K : Int → Heap → Prop} {H : Heap} (h : c_internal_stringslite_IndexByte C p_s p_c (fun r0 H2 => ∃ H0, Gh C H2 H0 ∧ K r0 H0) H) : c_internal_stringslite_IndexByte C p_s p_c K H :=
  Spec.gh (Spec.mono h fun _ H2 ⟨r0, hv, H0, hg, hk⟩ => ⟨H0, hg, r0, hv, hk⟩)
def c_internal_bytealg_Cutover (C : Ctx) (p_n : Int) (K : Int → Heap → Prop) (H : Heap) : Prop :=
  Spec Tryd.prog C 117 [.int .i64 p_n] H (fun v H2 => ∃ (r0 : Int), v = .int .i64 r0 ∧ K r0 H2)
theorem c_internal_bytealg_Cutover.mono {C : Ctx} {p_n : Int} {K K2 : Int → Heap → Prop} {H : Heap} (h : c_internal_bytealg_Cutover C p_n K H) (hk : ∀ r0 H2, K r0 H2 → K2 r0 H2) : c_internal_bytealg_Cutover C p_n K2 H :=
  Spec.mono h fun _ H2 ⟨r0, hv, h2⟩ => ⟨r0, hv, hk r0 H2 h2⟩
theorem c_internal_bytealg_Cutover.gh {C : Ctx} {p_n : Int} {K : Int → Heap → Prop} {H : Heap} (h : c_internal_bytealg_Cutover C p_n (fun r0 H2 => ∃ H0, Gh C H2 H0 ∧ K r0 H0) H) : c_internal_bytealg_Cutover C p_n K H :=
  Spec.gh (Spec.mono h fun _ H2 ⟨r0, hv, H0, hg, hk⟩ => ⟨H0, hg, r0, hv, hk⟩)
def c_internal_bytealg_IndexRabinKarp_string (C : Ctx) (p_s : Str) (p_sep : Str) (K : Int → Heap → Prop) (H : Heap) : Prop :=
  Spec Tryd.prog C 118 [sv p_s, sv p_sep] H (fun v H2 => ∃ (r0 : Int), v = .int .i64 r0 ∧ K r0 H2)
theorem c_internal_bytealg_IndexRabinKarp_string.mono {C : Ctx} {p_s : Str} {p_sep : Str} {K K2 : Int → Heap → Prop} {H : Heap} (h : c_internal_bytealg_IndexRabinKarp_string C p_s p_sep K H) (hk : ∀ r0 H2, K r0 H2 → K2 r0 H2) : c_internal_bytealg_IndexRabinKarp_string C p_s p_sep K2 H :=
  Spec.mono h fun _ H2 ⟨r0, hv, h2⟩ => ⟨r0, hv, hk r0 H2 h2⟩
theorem c_internal_bytealg_IndexRabinKarp_string.gh {C : Ctx} {p_s : Str} {p_sep : Str} {K : Int → Heap → Prop} {H : Heap} (h : c_internal_bytealg_IndexRabinKarp_string C p_s p_sep (fun r0 H2 => ∃ H0, Gh C H2 H0 ∧ K r0 H0) H) : c_internal_bytealg_IndexRabinKarp_string C p_s p_sep K H :=
  Spec.gh (Spec.mono h fun _ H2 ⟨r0, hv, H0, hg, hk⟩ => ⟨H0, hg, r0, hv, hk⟩)
def sh_law03_CodeApart (C : Ctx) (p_v : T_api_Value) (p_w : T_api_Value) (p_k : Int) (p_tail : Sl) (K : Bool → Heap → Prop) (H : Heap) : Prop :=
  nw (T_api_Value.c p_v) (fun b1 H2 =>
 nw (T_api_Value.c p_w) (fun b3 H4 =>
 ldT H4 T_api_Value.c (b1, 0) fun x5 =>
 c_law03_wide C x5 (fun r7 H8 =>
 jn (α := Bool) (fun b9 H17 =>
 jn (α := Bool) (fun b19 H25 =>
 ift b19
 (c_law03_works C (fun r27 H28 =>
 K r27 H28) H25)
 (dr H25 fun Hs29 =>
 ldT Hs29 T_api_Value.c (b1, 0) fun x31 =>
 ldT Hs29 T_api_Value.c (b3, 0) fun x33 =>
 c_code_Value C Sl.nil x31 (fun r36 H37 =>
 Heap.le Hs29 H37 ∧
 c_code_Value C Sl.nil x33 (fun r39 H40 =>
 Heap.le Hs29 H40 ∧
 ift (((Sl.len r36 : Int) : Int) == 0)
 (K true H40)
 ((w .u64 (Sl.len r36 : Int)) ≠ 0 ∧
 slL r36 0 (w .i64 (Int.tmod (w .u64 p_k) (w .u64 (Sl.len r36 : Int)))) (Sl.cap r36 : Int) 1 fun t43 =>
 c_code_NewReader C t43 (fun r49 H50 =>
 c_code_Reader_Value C r49 (fun r51 H52 =>
 c_law03_behind C r36 p_tail (fun r53 H54 =>
 c_code_NewReader C r53 (fun r55 H56 =>
 jn (α := Bool) (fun x58 H59 =>
 ift x58
 (K false H59)
 (dr H59 fun Hs84 =>
 ift (((Sl.len r39 : Int) : Int) == 0)
 (K true H59)
 (ldT Hs84 T_api_Value.c (b1, 0) fun x87 =>
 ldT Hs84 T_api_Value.c (b3, 0) fun x89 =>
 c_ref02_Same C x87 x89 (fun r92 H93 =>
 Heap.le Hs84 H93 ∧
 ift r92
 (K true H93)
 (ift (decide (((Sl.len r39 : Int) : Int) > (Sl.len r36 : Int)))
 (K true H93)
 (slL r36 0 (Sl.len r39 : Int) (Sl.cap r36 : Int) 1 fun t96 =>
 b2s t96 (fun t102 =>
 b2s r39 (fun t105 =>
 K (!(t102 == t105)) H93) Hs84) Hs84))) H59)))
 (fun J57 => dr H56 fun Hs61 =>
 c_code_Reader_OK C r49 (fun r64 H65 =>
 Heap.le Hs61 H65 ∧
 ift r64
 (J57 true H65)
 (ldT Hs61 T_api_Value.c (b1, 0) fun x67 =>
 c_code_Reader_Value C r55 (fun r70 H71 =>
 Heap.le Hs61 H71 ∧
 c_ref02_Same C r70 x67 (fun r73 H74 =>
 Heap.le Hs61 H74 ∧
 ift (!r73)
 (J57 true H74)
 (c_code_Reader_OK C r55 (fun r77 H78 =>
 Heap.le Hs61 H78 ∧
 ift (!r77)
 (J57 true H78)
 (c_code_Reader_Left C r55 (fun r81 H82 =>
 Heap.le Hs61 H82 ∧
 J57 ((r81 : Int) != (Sl.len p_tail : Int)) H82) H78)) H74)) H71) H65)) H56)) H54) H52) H50) H40)) H37) H25))
 (fun J20 => ift (b9 || (decide (((Sl.len p_tail : Int) : Int) > 3000)))
 (J20 true H17)
 (c_law03_works C (fun r23 H24 =>
 J20 (!r23) H24) H17)))
 (fun J10 => ift r7
 (J10 true H8)
 (ldT H8 T_api_Value.c (b3, 0) fun x13 =>
 c_law03_wide C x13 (fun r15 H16 =>
 J10 r15 H16) H8))) H4) H2) H

theorem ad_law03_CodeApart (C : Ctx) (p_v : T_api_Value) (p_w : T_api_Value) (p_k : Int) (p_tail : Sl) (K : Bool → Heap → Prop) (H : Heap) (h : sh_law03_CodeApart C p_v p_w p_k p_tail K H) : c_law03_CodeApart C p_v p_w p_k p_tail K H := by
  refine Spec.enter Tryd.func8 rfl Tryd.ntmps8 rfl ?_
  refine GC.sub [(0, .agg (T_api_Value.c p_v).toArray), (1, .agg (T_api_Value.c p_w).toArray), (2, .int .i64 p_k), (3, slv p_tail)] ⟨rfl, rfl, rfl, rfl, trivial⟩ ?_
  refine GC.seq ?_
  refine GC.region ?_
  refine GL.box (v := .agg (T_api_Value.c p_v).toArray) (cs := T_api_Value.c p_v) h trivial rfl rfl rfl ?_
  intro b1 H2 h
  refine GL.box (v := .agg (T_api_Value.c p_w).toArray) (cs := T_api_Value.c p_w) h trivial rfl rfl rfl ?_
  intro b3 H4 h
  refine GL.val trivial rfl (OV.assign (v := .bool false) rfl) ?_
  refine GL.nil ?_
  refine GC.seq ?_
  refine GC.seq ?_
  refine GC.region ?_
  obtain ⟨x5, hr6, h⟩ := h
  refine GL.val trivial rfl (OV.loadT (p := (b1, 0)) (cs := T_api_Value.c x5) rfl rfl rfl hr6) ?_
  refine GL.call h trivial rfl ok_law03_wide (vs := [.agg (T_api_Value.c x5).toArray]) rfl ?_
  rintro _ H8 ⟨r7, rfl, h⟩
  refine GL.val trivial rfl (OV.move (v := .bool r7) rfl) ?_
  obtain ⟨J10, h, hR11⟩ := h
  refine GL.cut (α := Bool) 3 J10 (fun b9 => [(18, .bool b9), (2, .int .i64 p_k), (3, slv p_tail), (4, pv (some (b1, 0))), (5, pv (some (b3, 0)))]) ?_ ?_
  · rcases Bool.eq_false_or_eq_true r7 with hc12 | hc12
    · skip
      replace h := And.left h hc12
      refine GL.skip ⟨_, rfl, .inl ⟨_, rfl, hc12⟩⟩ rfl ?_
      refine GL.skip ⟨_, rfl, .inl ⟨_, rfl, hc12⟩⟩ rfl ?_
      refine GL.val trivial rfl (OV.pickT (b := r7) (v := .bool true) rfl hc12 rfl) ?_
      exact GL.jump (fun _ _ h => h) true h ⟨rfl, rfl, rfl, rfl, rfl, trivial⟩
    · skip
      replace h := And.right h hc12
      obtain ⟨x13, hr14, h⟩ := h
      refine GL.val ⟨_, _, rfl, rfl, hc12⟩ rfl (OV.loadT (p := (b3, 0)) (cs := T_api_Value.c x13) rfl rfl rfl hr14) ?_
      refine GL.call h ⟨_, _, rfl, rfl, hc12⟩ rfl ok_law03_wide (vs := [.agg (T_api_Value.c x13).toArray]) rfl ?_
      rintro _ H16 ⟨r15, rfl, h⟩
      refine GL.val trivial rfl (OV.pickF (b := r7) (v := .bool r15) rfl hc12 rfl) ?_
      exact GL.jump (fun _ _ h => h) r15 h ⟨rfl, rfl, rfl, rfl, rfl, trivial⟩
  intro b9 H17 h
  replace h := hR11 b9 H17 h
  refine GL.val trivial rfl (OV.move (v := .bool b9) rfl) ?_
  refine GL.cut0 4 [(23, .bool (b9 || (decide (((Sl.len p_tail : Int) : Int) > 3000)))), (2, .int .i64 p_k), (3, slv p_tail), (4, pv (some (b1, 0))), (5, pv (some (b3, 0)))] ?_ ?_
  · rcases Bool.eq_false_or_eq_true b9 with hc18 | hc18
    · skip
      refine GL.skip ⟨_, rfl, .inl ⟨_, rfl, hc18⟩⟩ rfl ?_
      refine GL.skip ⟨_, rfl, .inl ⟨_, rfl, hc18⟩⟩ rfl ?_
      refine GL.skip ⟨_, rfl, .inl ⟨_, rfl, hc18⟩⟩ rfl ?_
      refine GL.val trivial rfl (OV.pickT (b := b9) (v := .bool true) rfl hc18 rfl) ?_
      exact GL.jump0 (fun _ _ h => h) () rfl ⟨(by rw [hc18]; rfl), rfl, rfl, rfl, rfl, trivial⟩
    · skip
      refine GL.val ⟨_, _, rfl, rfl, hc18⟩ rfl (OV.move (v := slv p_tail) rfl) ?_
      refine GL.val ⟨_, _, rfl, rfl, hc18⟩ rfl (OV.lenSl (s := p_tail) rfl rfl) ?_
      refine GL.val ⟨_, _, rfl, rfl, hc18⟩ rfl (OV.ibin (v := .bool (decide (((Sl.len p_tail : Int) : Int) > 3000))) rfl rfl rfl) ?_
      refine GL.val trivial rfl (OV.pickF (b := b9) (v := .bool (decide (((Sl.len p_tail : Int) : Int) > 3000))) rfl hc18 rfl) ?_
      exact GL.jump0 (fun _ _ h => h) () rfl ⟨(by rw [hc18]; rfl), rfl, rfl, rfl, rfl, trivial⟩
  refine GL.val trivial rfl (OV.move (v := .bool (b9 || (decide (((Sl.len p_tail : Int) : Int) > 3000)))) rfl) ?_
  obtain ⟨J20, h, hR21⟩ := h
  refine GL.cut (α := Bool) 3 J20 (fun b19 => [(27, .bool b19), (2, .int .i64 p_k), (3, slv p_tail), (4, pv (some (b1, 0))), (5, pv (some (b3, 0)))]) ?_ ?_
  · rcases Bool.eq_false_or_eq_true (b9 || (decide (((Sl.len p_tail : Int) : Int) > 3000))) with hc22 | hc22
    · skip
      replace h := And.left h hc22
      refine GL.skip ⟨_, rfl, .inl ⟨_, rfl, hc22⟩⟩ rfl ?_
      refine GL.skip ⟨_, rfl, .inl ⟨_, rfl, hc22⟩⟩ rfl ?_
      refine GL.val trivial rfl (OV.pickT (b := b9 || (decide (((Sl.len p_tail : Int) : Int) > 3000))) (v := .bool true) rfl hc22 rfl) ?_
      exact GL.jump (fun _ _ h => h) true h ⟨rfl, rfl, rfl, rfl, rfl, trivial⟩
    · skip
      replace h := And.right h hc22
      refine GL.call h ⟨_, _, rfl, rfl, hc22⟩ rfl ok_law03_works (vs := []) rfl ?_
      rintro _ H24 ⟨r23, rfl, h⟩
      refine GL.val ⟨_, _, rfl, rfl, hc22⟩ rfl (OV.not rfl) ?_
      refine GL.val trivial rfl (OV.pickF (b := b9 || (decide (((Sl.len p_tail : Int) : Int) > 3000))) (v := .bool (!r23)) rfl hc22 rfl) ?_
      exact GL.jump (fun _ _ h => h) (!r23) h ⟨rfl, rfl, rfl, rfl, rfl, trivial⟩
  intro b19 H25 h
  replace h := hR21 b19 H25 h
  refine GL.nil ?_
  refine GC.cond (b := b19) rfl (fun hc26 => ?_) (fun hc26 => ?_)
  · replace h := And.left h hc26
    refine GC.seq ?_
    refine GC.region ?_
    refine GL.call h trivial rfl ok_law03_works (vs := []) rfl ?_
    rintro _ H28 ⟨r27, rfl, h⟩
    refine GL.val trivial rfl (OV.assign (v := .bool r27) rfl) ?_
    refine GL.nil ?_
    exact GC.ret (fun _ _ hf hs => post_tmp1 rfl rfl hf hs ⟨r27, rfl, h⟩)
  · replace h := And.right h hc26
    refine GC.skip ?_
    refine GC.seq ?_
    obtain ⟨Hs29, hle30, h⟩ := h
    refine GC.any (Hs := Hs29) (by kernel_rfl) hle30 ?_
    obtain ⟨x31, hr32, h⟩ := h
    refine GA.take 0 rfl (by kernel_rfl) (by kernel_rfl) (by kernel_rfl) (fun _ _ _ h => by obtain ⟨_, _, _, h, _⟩ := h; cases h) trivial rfl (OV.loadT (p := (b1, 0)) (cs := T_api_Value.c x31) rfl rfl rfl hr32) ?_
    obtain ⟨x33, hr34, h⟩ := h
    refine GA.take 2 rfl (by kernel_rfl) (by kernel_rfl) (by kernel_rfl) (fun _ _ _ h => by obtain ⟨_, _, _, h, _⟩ := h; cases h) trivial rfl (OV.loadT (p := (b3, 0)) (cs := T_api_Value.c x33) rfl rfl rfl hr34) ?_
    refine GA.eff 1 rfl (by kernel_rfl) ?_
    refine GL.call h trivial rfl ok_code_Value (vs := [slv Sl.nil, .agg (T_api_Value.c x31).toArray]) rfl ?_
    rintro _ H37 ⟨r36, rfl, h⟩
    obtain ⟨hle35, h⟩ := h
    refine GA.back hle35 ?_
    refine GA.eff 3 rfl (by kernel_rfl) ?_
    refine GL.call h trivial rfl ok_code_Value (vs := [slv Sl.nil, .agg (T_api_Value.c x33).toArray]) rfl ?_
    rintro _ H40 ⟨r39, rfl, h⟩
    obtain ⟨hle38, h⟩ := h
    refine GA.back hle38 ?_
    refine GA.take 4 rfl (by kernel_rfl) (by kernel_rfl) (by kernel_rfl) (fun _ _ _ h => by obtain ⟨_, _, _, h, _⟩ := h; cases h) trivial rfl (OV.assign (v := slv r36) rfl) ?_
    refine GA.take 5 rfl (by kernel_rfl) (by kernel_rfl) (by kernel_rfl) (fun _ _ _ h => by obtain ⟨_, _, _, h, _⟩ := h; cases h) trivial rfl (OV.assign (v := slv r39) rfl) ?_
    refine GA.done (by kernel_rfl) ?_
    refine GL.nil ?_
    refine GC.seq ?_
    refine GC.seq ?_
    refine GC.region ?_
    refine GL.val trivial rfl (OV.move (v := slv r36) rfl) ?_
    refine GL.val trivial rfl (OV.lenSl (s := r36) rfl rfl) ?_
    refine GL.val trivial rfl (OV.ibin (v := .bool (((Sl.len r36 : Int) : Int) == 0)) rfl rfl rfl) ?_
    refine GL.nil ?_
    refine GC.cond (b := ((Sl.len r36 : Int) : Int) == 0) rfl (fun hc41 => ?_) (fun hc41 => ?_)
    · replace h := And.left h hc41
      refine GC.seq ?_
      refine GC.region ?_
      refine GL.val trivial rfl (OV.assign (v := .bool true) rfl) ?_
      refine GL.nil ?_
      exact GC.ret (fun _ _ hf hs => post_tmp1 rfl rfl hf hs ⟨true, rfl, h⟩)
    · replace h := And.right h hc41
      refine GC.skip ?_
      refine GC.seq ?_
      refine GC.region ?_
      refine GL.val trivial rfl (OV.move (v := slv r36) rfl) ?_
      refine GL.val trivial rfl (OV.move (v := .int .i64 p_k) rfl) ?_
      refine GL.val trivial rfl (OV.convInt rfl rfl rfl) ?_
      refine GL.val trivial rfl (OV.move (v := slv r36) rfl) ?_
      refine GL.val trivial rfl (OV.lenSl (s := r36) rfl rfl) ?_
      refine GL.val trivial rfl (OV.convInt rfl rfl rfl) ?_
      obtain ⟨hb42, h⟩ := h
      refine GL.val trivial rfl (OV.rem rfl rfl hb42) ?_
      refine GL.val trivial rfl (OV.convInt rfl rfl rfl) ?_
      obtain ⟨h44, h45, h46, h47, t43, h48, h⟩ := h
      refine GL.val trivial rfl (OV.sliceSl (s := r36) h44 h45 h46 h47 h48 rfl rfl rfl rfl rfl rfl rfl (fun h => by first | rfl | cases h) rfl rfl) ?_
      refine GL.call h trivial rfl ok_code_NewReader (vs := [slv t43]) rfl ?_
      rintro _ H50 ⟨r49, rfl, h⟩
      refine GL.val trivial rfl (OV.assign (v := pv r49) rfl) ?_
      refine GL.nil ?_
      refine GC.seq ?_
      refine GC.region ?_
      refine GL.val trivial rfl (OV.move (v := pv r49) rfl) ?_
      refine GL.call h trivial rfl ok_code_Reader_Value (vs := [pv r49]) rfl ?_
      rintro _ H52 ⟨r51, rfl, h⟩
      refine GL.nil ?_
      refine GC.seq ?_
      refine GC.region ?_
      refine GL.val trivial rfl (OV.move (v := slv r36) rfl) ?_
      refine GL.val trivial rfl (OV.move (v := slv p_tail) rfl) ?_
      refine GL.call h trivial rfl ok_law03_behind (vs := [slv r36, slv p_tail]) rfl ?_
      rintro _ H54 ⟨r53, rfl, h⟩
      refine GL.call h trivial rfl ok_code_NewReader (vs := [slv r53]) rfl ?_
      rintro _ H56 ⟨r55, rfl, h⟩
      refine GL.val trivial rfl (OV.assign (v := pv r55) rfl) ?_
      refine GL.nil ?_
      refine GC.seq ?_
      refine GC.seq ?_
      obtain ⟨J57, h, hR60⟩ := h
      refine GC.meet (α := Bool) J57 (fun x58 => [(72, .bool x58), (4, pv (some (b1, 0))), (5, pv (some (b3, 0))), (9, slv r36), (10, slv r39)]) ?_ ?_
      · skip
        obtain ⟨Hs61, hle62, h⟩ := h
        refine GC.any (Hs := Hs61) (by kernel_rfl) hle62 ?_
        refine GA.take 0 rfl (by kernel_rfl) (by kernel_rfl) (by kernel_rfl) (fun _ _ _ h => by obtain ⟨_, _, _, h, _⟩ := h; cases h) trivial rfl (OV.move (v := pv r49) rfl) ?_
        refine GA.eff 1 rfl (by kernel_rfl) ?_
        refine GL.call h trivial rfl ok_code_Reader_OK (vs := [pv r49]) rfl ?_
        rintro _ H65 ⟨r64, rfl, h⟩
        obtain ⟨hle63, h⟩ := h
        refine GA.back hle63 ?_
        refine GA.take 2 rfl (by kernel_rfl) (by kernel_rfl) (by kernel_rfl) (fun _ _ _ h => by obtain ⟨_, _, _, h, _⟩ := h; cases h) trivial rfl (OV.move (v := .bool r64) rfl) ?_
        rcases Bool.eq_false_or_eq_true r64 with hc66 | hc66
        · replace h := And.left h hc66
          refine GA.skip 3 rfl (by kernel_rfl) (by kernel_rfl) (by kernel_rfl) (fun _ _ _ h => by obtain ⟨_, _, _, h, _⟩ := h; cases h) ⟨_, rfl, .inl ⟨_, rfl, hc66⟩⟩ rfl ?_
          refine GA.skip 4 rfl (by kernel_rfl) (by kernel_rfl) (by kernel_rfl) (fun _ _ _ h => by obtain ⟨_, _, _, h, _⟩ := h; cases h) ⟨_, rfl, .inl ⟨_, rfl, hc66⟩⟩ rfl ?_
          refine GA.skip 5 rfl (by kernel_rfl) (by kernel_rfl) (by kernel_rfl) (fun _ _ _ h => by obtain ⟨_, _, _, h, _⟩ := h; cases h) ⟨_, rfl, .inl ⟨_, rfl, hc66⟩⟩ rfl ?_
          refine GA.skip 6 rfl (by kernel_rfl) (by kernel_rfl) (by kernel_rfl) (fun _ _ _ h => by obtain ⟨_, _, _, h, _⟩ := h; cases h) ⟨_, rfl, .inl ⟨_, rfl, hc66⟩⟩ rfl ?_
          refine GA.skip 7 rfl (by kernel_rfl) (by kernel_rfl) (by kernel_rfl) (fun _ _ _ h => by obtain ⟨_, _, _, h, _⟩ := h; cases h) ⟨_, rfl, .inl ⟨_, rfl, hc66⟩⟩ rfl ?_
          refine GA.take 8 rfl (by kernel_rfl) (by kernel_rfl) (by kernel_rfl) (fun _ _ _ h => by obtain ⟨_, _, _, h, _⟩ := h; cases h) trivial rfl (OV.pickT (b := r64) (v := .bool true) rfl hc66 rfl) ?_
          refine GA.take 9 rfl (by kernel_rfl) (by kernel_rfl) (by kernel_rfl) (fun _ _ _ h => by obtain ⟨_, _, _, h, _⟩ := h; cases h) trivial rfl (OV.move (v := .bool true) rfl) ?_
          refine GA.skip 10 rfl (by kernel_rfl) (by kernel_rfl) (by kernel_rfl) (fun _ _ _ h => by obtain ⟨_, _, _, h, _⟩ := h; cases h) ⟨_, rfl, .inl ⟨_, rfl, rfl⟩⟩ rfl ?_
          refine GA.skip 11 rfl (by kernel_rfl) (by kernel_rfl) (by kernel_rfl) (fun _ _ _ h => by obtain ⟨_, _, _, h, _⟩ := h; cases h) ⟨_, rfl, .inl ⟨_, rfl, rfl⟩⟩ rfl ?_
          refine GA.skip 12 rfl (by kernel_rfl) (by kernel_rfl) (by kernel_rfl) (fun _ _ _ h => by obtain ⟨_, _, _, h, _⟩ := h; cases h) ⟨_, rfl, .inl ⟨_, rfl, rfl⟩⟩ rfl ?_
          refine GA.take 13 rfl (by kernel_rfl) (by kernel_rfl) (by kernel_rfl) (fun _ _ _ h => by obtain ⟨_, _, _, h, _⟩ := h; cases h) trivial rfl (OV.pickT (b := true) (v := .bool true) rfl rfl rfl) ?_
          refine GA.take 14 rfl (by kernel_rfl) (by kernel_rfl) (by kernel_rfl) (fun _ _ _ h => by obtain ⟨_, _, _, h, _⟩ := h; cases h) trivial rfl (OV.move (v := .bool true) rfl) ?_
          refine GA.skip 15 rfl (by kernel_rfl) (by kernel_rfl) (by kernel_rfl) (fun _ _ _ h => by obtain ⟨_, _, _, h, _⟩ := h; cases h) ⟨_, rfl, .inl ⟨_, rfl, rfl⟩⟩ rfl ?_
          refine GA.skip 16 rfl (by kernel_rfl) (by kernel_rfl) (by kernel_rfl) (fun _ _ _ h => by obtain ⟨_, _, _, h, _⟩ := h; cases h) ⟨_, rfl, .inl ⟨_, rfl, rfl⟩⟩ rfl ?_
          refine GA.skip 17 rfl (by kernel_rfl) (by kernel_rfl) (by kernel_rfl) (fun _ _ _ h => by obtain ⟨_, _, _, h, _⟩ := h; cases h) ⟨_, rfl, .inl ⟨_, rfl, rfl⟩⟩ rfl ?_
          refine GA.skip 18 rfl (by kernel_rfl) (by kernel_rfl) (by kernel_rfl) (fun _ _ _ h => by obtain ⟨_, _, _, h, _⟩ := h; cases h) ⟨_, rfl, .inl ⟨_, rfl, rfl⟩⟩ rfl ?_
          refine GA.skip 19 rfl (by kernel_rfl) (by kernel_rfl) (by kernel_rfl) (fun _ _ _ h => by obtain ⟨_, _, _, h, _⟩ := h; cases h) ⟨_, rfl, .inl ⟨_, rfl, rfl⟩⟩ rfl ?_
          refine GA.take 20 rfl (by kernel_rfl) (by kernel_rfl) (by kernel_rfl) (fun _ _ _ h => by obtain ⟨_, _, _, h, _⟩ := h; cases h) trivial rfl (OV.pickT (b := true) (v := .bool true) rfl rfl rfl) ?_
          refine GA.done (by kernel_rfl) ?_
          exact GL.jump (fun _ _ h => h) true h ⟨rfl, rfl, rfl, rfl, rfl, trivial⟩
        · replace h := And.right h hc66
          refine GA.take 3 rfl (by kernel_rfl) (by kernel_rfl) (by kernel_rfl) (fun _ _ _ h => by obtain ⟨_, _, _, h, _⟩ := h; cases h) ⟨_, _, rfl, rfl, hc66⟩ rfl (OV.move (v := pv r55) rfl) ?_
          obtain ⟨x67, hr68, h⟩ := h
          refine GA.take 5 rfl (by kernel_rfl) (by kernel_rfl) (by kernel_rfl) (fun _ _ _ h => by obtain ⟨_, _, _, h, _⟩ := h; cases h) ⟨_, _, rfl, rfl, hc66⟩ rfl (OV.loadT (p := (b1, 0)) (cs := T_api_Value.c x67) rfl rfl rfl hr68) ?_
          refine GA.eff 4 rfl (by kernel_rfl) ?_
          refine GL.call h ⟨_, _, rfl, rfl, hc66⟩ rfl ok_code_Reader_Value (vs := [pv r55]) rfl ?_
          rintro _ H71 ⟨r70, rfl, h⟩
          obtain ⟨hle69, h⟩ := h
          refine GA.back hle69 ?_
          refine GA.eff 6 rfl (by kernel_rfl) ?_
          refine GL.call h ⟨_, _, rfl, rfl, hc66⟩ rfl ok_ref02_Same (vs := [.agg (T_api_Value.c r70).toArray, .agg (T_api_Value.c x67).toArray]) rfl ?_
          rintro _ H74 ⟨r73, rfl, h⟩
          obtain ⟨hle72, h⟩ := h
          refine GA.back hle72 ?_
          refine GA.take 7 rfl (by kernel_rfl) (by kernel_rfl) (by kernel_rfl) (fun _ _ _ h => by obtain ⟨_, _, _, h, _⟩ := h; cases h) ⟨_, _, rfl, rfl, hc66⟩ rfl (OV.not rfl) ?_
          refine GA.take 8 rfl (by kernel_rfl) (by kernel_rfl) (by kernel_rfl) (fun _ _ _ h => by obtain ⟨_, _, _, h, _⟩ := h; cases h) trivial rfl (OV.pickF (b := r64) (v := .bool (!r73)) rfl hc66 rfl) ?_
          refine GA.take 9 rfl (by kernel_rfl) (by kernel_rfl) (by kernel_rfl) (fun _ _ _ h => by obtain ⟨_, _, _, h, _⟩ := h; cases h) trivial rfl (OV.move (v := .bool (!r73)) rfl) ?_
          rcases Bool.eq_false_or_eq_true (!r73) with hc75 | hc75
          · replace h := And.left h hc75
            refine GA.skip 10 rfl (by kernel_rfl) (by kernel_rfl) (by kernel_rfl) (fun _ _ _ h => by obtain ⟨_, _, _, h, _⟩ := h; cases h) ⟨_, rfl, .inl ⟨_, rfl, hc75⟩⟩ rfl ?_
            refine GA.skip 11 rfl (by kernel_rfl) (by kernel_rfl) (by kernel_rfl) (fun _ _ _ h => by obtain ⟨_, _, _, h, _⟩ := h; cases h) ⟨_, rfl, .inl ⟨_, rfl, hc75⟩⟩ rfl ?_
            refine GA.skip 12 rfl (by kernel_rfl) (by kernel_rfl) (by kernel_rfl) (fun _ _ _ h => by obtain ⟨_, _, _, h, _⟩ := h; cases h) ⟨_, rfl, .inl ⟨_, rfl, hc75⟩⟩ rfl ?_
            refine GA.take 13 rfl (by kernel_rfl) (by kernel_rfl) (by kernel_rfl) (fun _ _ _ h => by obtain ⟨_, _, _, h, _⟩ := h; cases h) trivial rfl (OV.pickT (b := !r73) (v := .bool true) rfl hc75 rfl) ?_
            refine GA.take 14 rfl (by kernel_rfl) (by kernel_rfl) (by kernel_rfl) (fun _ _ _ h => by obtain ⟨_, _, _, h, _⟩ := h; cases h) trivial rfl (OV.move (v := .bool true) rfl) ?_
            refine GA.skip 15 rfl (by kernel_rfl) (by kernel_rfl) (by kernel_rfl) (fun _ _ _ h => by obtain ⟨_, _, _, h, _⟩ := h; cases h) ⟨_, rfl, .inl ⟨_, rfl, rfl⟩⟩ rfl ?_
            refine GA.skip 16 rfl (by kernel_rfl) (by kernel_rfl) (by kernel_rfl) (fun _ _ _ h => by obtain ⟨_, _, _, h, _⟩ := h; cases h) ⟨_, rfl, .inl ⟨_, rfl, rfl⟩⟩ rfl ?_
            refine GA.skip 17 rfl (by kernel_rfl) (by kernel_rfl) (by kernel_rfl) (fun _ _ _ h => by obtain ⟨_, _, _, h, _⟩ := h; cases h) ⟨_, rfl, .inl ⟨_, rfl, rfl⟩⟩ rfl ?_
            refine GA.skip 18 rfl (by kernel_rfl) (by kernel_rfl) (by kernel_rfl) (fun _ _ _ h => by obtain ⟨_, _, _, h, _⟩ := h; cases h) ⟨_, rfl, .inl ⟨_, rfl, rfl⟩⟩ rfl ?_
            refine GA.skip 19 rfl (by kernel_rfl) (by kernel_rfl) (by kernel_rfl) (fun _ _ _ h => by obtain ⟨_, _, _, h, _⟩ := h; cases h) ⟨_, rfl, .inl ⟨_, rfl, rfl⟩⟩ rfl ?_
            refine GA.take 20 rfl (by kernel_rfl) (by kernel_rfl) (by kernel_rfl) (fun _ _ _ h => by obtain ⟨_, _, _, h, _⟩ := h; cases h) trivial rfl (OV.pickT (b := true) (v := .bool true) rfl rfl rfl) ?_
            refine GA.done (by kernel_rfl) ?_
            exact GL.jump (fun _ _ h => h) true h ⟨rfl, rfl, rfl, rfl, rfl, trivial⟩
          · replace h := And.right h hc75
            refine GA.take 10 rfl (by kernel_rfl) (by kernel_rfl) (by kernel_rfl) (fun _ _ _ h => by obtain ⟨_, _, _, h, _⟩ := h; cases h) ⟨_, _, rfl, rfl, hc75⟩ rfl (OV.move (v := pv r55) rfl) ?_
            refine GA.eff 11 rfl (by kernel_rfl) ?_
            refine GL.call h ⟨_, _, rfl, rfl, hc75⟩ rfl ok_code_Reader_OK (vs := [pv r55]) rfl ?_
            rintro _ H78 ⟨r77, rfl, h⟩
            obtain ⟨hle76, h⟩ := h
            refine GA.back hle76 ?_
            refine GA.take 12 rfl (by kernel_rfl) (by kernel_rfl) (by kernel_rfl) (fun _ _ _ h => by obtain ⟨_, _, _, h, _⟩ := h; cases h) ⟨_, _, rfl, rfl, hc75⟩ rfl (OV.not rfl) ?_
            refine GA.take 13 rfl (by kernel_rfl) (by kernel_rfl) (by kernel_rfl) (fun _ _ _ h => by obtain ⟨_, _, _, h, _⟩ := h; cases h) trivial rfl (OV.pickF (b := !r73) (v := .bool (!r77)) rfl hc75 rfl) ?_
            refine GA.take 14 rfl (by kernel_rfl) (by kernel_rfl) (by kernel_rfl) (fun _ _ _ h => by obtain ⟨_, _, _, h, _⟩ := h; cases h) trivial rfl (OV.move (v := .bool (!r77)) rfl) ?_
            rcases Bool.eq_false_or_eq_true (!r77) with hc79 | hc79
            · replace h := And.left h hc79
              refine GA.skip 15 rfl (by kernel_rfl) (by kernel_rfl) (by kernel_rfl) (fun _ _ _ h => by obtain ⟨_, _, _, h, _⟩ := h; cases h) ⟨_, rfl, .inl ⟨_, rfl, hc79⟩⟩ rfl ?_
              refine GA.skip 16 rfl (by kernel_rfl) (by kernel_rfl) (by kernel_rfl) (fun _ _ _ h => by obtain ⟨_, _, _, h, _⟩ := h; cases h) ⟨_, rfl, .inl ⟨_, rfl, hc79⟩⟩ rfl ?_
              refine GA.skip 17 rfl (by kernel_rfl) (by kernel_rfl) (by kernel_rfl) (fun _ _ _ h => by obtain ⟨_, _, _, h, _⟩ := h; cases h) ⟨_, rfl, .inl ⟨_, rfl, hc79⟩⟩ rfl ?_
              refine GA.skip 18 rfl (by kernel_rfl) (by kernel_rfl) (by kernel_rfl) (fun _ _ _ h => by obtain ⟨_, _, _, h, _⟩ := h; cases h) ⟨_, rfl, .inl ⟨_, rfl, hc79⟩⟩ rfl ?_
              refine GA.skip 19 rfl (by kernel_rfl) (by kernel_rfl) (by kernel_rfl) (fun _ _ _ h => by obtain ⟨_, _, _, h, _⟩ := h; cases h) ⟨_, rfl, .inl ⟨_, rfl, hc79⟩⟩ rfl ?_
              refine GA.take 20 rfl (by kernel_rfl) (by kernel_rfl) (by kernel_rfl) (fun _ _ _ h => by obtain ⟨_, _, _, h, _⟩ := h; cases h) trivial rfl (OV.pickT (b := !r77) (v := .bool true) rfl hc79 rfl) ?_
              refine GA.done (by kernel_rfl) ?_
              exact GL.jump (fun _ _ h => h) true h ⟨rfl, rfl, rfl, rfl, rfl, trivial⟩
            · replace h := And.right h hc79
              refine GA.take 15 rfl (by kernel_rfl) (by kernel_rfl) (by kernel_rfl) (fun _ _ _ h => by obtain ⟨_, _, _, h, _⟩ := h; cases h) ⟨_, _, rfl, rfl, hc79⟩ rfl (OV.move (v := pv r55) rfl) ?_
              refine GA.take 17 rfl (by kernel_rfl) (by kernel_rfl) (by kernel_rfl) (fun _ _ _ h => by obtain ⟨_, _, _, h, _⟩ := h; cases h) ⟨_, _, rfl, rfl, hc79⟩ rfl (OV.move (v := slv p_tail) rfl) ?_
              refine GA.take 18 rfl (by kernel_rfl) (by kernel_rfl) (by kernel_rfl) (fun _ _ _ h => by obtain ⟨_, _, _, h, _⟩ := h; cases h) ⟨_, _, rfl, rfl, hc79⟩ rfl (OV.lenSl (s := p_tail) rfl rfl) ?_
              refine GA.eff 16 rfl (by kernel_rfl) ?_
              refine GL.call h ⟨_, _, rfl, rfl, hc79⟩ rfl ok_code_Reader_Left (vs := [pv r55]) rfl ?_
              rintro _ H82 ⟨r81, rfl, h⟩
              obtain ⟨hle80, h⟩ := h
              refine GA.back hle80 ?_
              refine GA.take 19 rfl (by kernel_rfl) (by kernel_rfl) (by kernel_rfl) (fun _ _ _ h => by obtain ⟨_, _, _, h, _⟩ := h; cases h) ⟨_, _, rfl, rfl, hc79⟩ rfl (OV.ibin (v := .bool ((r81 : Int) != (Sl.len p_tail : Int))) rfl rfl rfl) ?_
              refine GA.take 20 rfl (by kernel_rfl) (by kernel_rfl) (by kernel_rfl) (fun _ _ _ h => by obtain ⟨_, _, _, h, _⟩ := h; cases h) trivial rfl (OV.pickF (b := !r77) (v := .bool ((r81 : Int) != (Sl.len p_tail : Int))) rfl hc79 rfl) ?_
              refine GA.done (by kernel_rfl) ?_
              exact GL.jump (fun _ _ h => h) ((r81 : Int) != (Sl.len p_tail : Int)) h ⟨rfl, rfl, rfl, rfl, rfl, trivial⟩
      · intro x58 H59 h
        replace h := hR60 x58 H59 h
        refine GL.nil ?_
        refine GC.cond (b := x58) rfl (fun hc83 => ?_) (fun hc83 => ?_)
        · replace h := And.left h hc83
          refine GC.seq ?_
          refine GC.region ?_
          refine GL.val trivial rfl (OV.assign (v := .bool false) rfl) ?_
          refine GL.nil ?_
          exact GC.ret (fun _ _ hf hs => post_tmp1 rfl rfl hf hs ⟨false, rfl, h⟩)
        · replace h := And.right h hc83
          refine GC.skip ?_
          refine GC.seq ?_
          obtain ⟨Hs84, hle85, h⟩ := h
          refine GC.any (Hs := Hs84) (by kernel_rfl) hle85 ?_
          refine GA.take 0 rfl (by kernel_rfl) (by kernel_rfl) (by kernel_rfl) (fun _ _ _ h => by obtain ⟨_, _, _, h, _⟩ := h; cases h) trivial rfl (OV.move (v := slv r39) rfl) ?_
          refine GA.take 1 rfl (by kernel_rfl) (by kernel_rfl) (by kernel_rfl) (fun _ _ _ h => by obtain ⟨_, _, _, h, _⟩ := h; cases h) trivial rfl (OV.lenSl (s := r39) rfl rfl) ?_
          refine GA.take 2 rfl (by kernel_rfl) (by kernel_rfl) (by kernel_rfl) (fun _ _ _ h => by obtain ⟨_, _, _, h, _⟩ := h; cases h) trivial rfl (OV.ibin (v := .bool (((Sl.len r39 : Int) : Int) == 0)) rfl rfl rfl) ?_
          refine GA.take 3 rfl (by kernel_rfl) (by kernel_rfl) (by kernel_rfl) (fun _ _ _ h => by obtain ⟨_, _, _, h, _⟩ := h; cases h) trivial rfl (OV.move (v := .bool (((Sl.len r39 : Int) : Int) == 0)) rfl) ?_
          rcases Bool.eq_false_or_eq_true (((Sl.len r39 : Int) : Int) == 0) with hc86 | hc86
          · replace h := And.left h hc86
            refine GA.skip 4 rfl (by kernel_rfl) (by kernel_rfl) (by kernel_rfl) (fun _ _ _ h => by obtain ⟨_, _, _, h, _⟩ := h; cases h) ⟨_, rfl, .inl ⟨_, rfl, hc86⟩⟩ rfl ?_
            refine GA.skip 5 rfl (by kernel_rfl) (by kernel_rfl) (by kernel_rfl) (fun _ _ _ h => by obtain ⟨_, _, _, h, _⟩ := h; cases h) ⟨_, rfl, .inl ⟨_, rfl, hc86⟩⟩ rfl ?_
            refine GA.skip 6 rfl (by kernel_rfl) (by kernel_rfl) (by kernel_rfl) (fun _ _ _ h => by obtain ⟨_, _, _, h, _⟩ := h; cases h) ⟨_, rfl, .inl ⟨_, rfl, hc86⟩⟩ rfl ?_
            refine GA.take 7 rfl (by kernel_rfl) (by kernel_rfl) (by kernel_rfl) (fun _ _ _ h => by obtain ⟨_, _, _, h, _⟩ := h; cases h) trivial rfl (OV.pickT (b := ((Sl.len r39 : Int) : Int) == 0) (v := .bool true) rfl hc86 rfl) ?_
            refine GA.take 8 rfl (by kernel_rfl) (by kernel_rfl) (by kernel_rfl) (fun _ _ _ h => by obtain ⟨_, _, _, h, _⟩ := h; cases h) trivial rfl (OV.move (v := .bool true) rfl) ?_
            refine GA.skip 9 rfl (by kernel_rfl) (by kernel_rfl) (by kernel_rfl) (fun _ _ _ h => by obtain ⟨_, _, _, h, _⟩ := h; cases h) ⟨_, rfl, .inl ⟨_, rfl, rfl⟩⟩ rfl ?_
            refine GA.skip 10 rfl (by kernel_rfl) (by kernel_rfl) (by kernel_rfl) (fun _ _ _ h => by obtain ⟨_, _, _, h, _⟩ := h; cases h) ⟨_, rfl, .inl ⟨_, rfl, rfl⟩⟩ rfl ?_
            refine GA.skip 11 rfl (by kernel_rfl) (by kernel_rfl) (by kernel_rfl) (fun _ _ _ h => by obtain ⟨_, _, _, h, _⟩ := h; cases h) ⟨_, rfl, .inl ⟨_, rfl, rfl⟩⟩ rfl ?_
            refine GA.skip 12 rfl (by kernel_rfl) (by kernel_rfl) (by kernel_rfl) (fun _ _ _ h => by obtain ⟨_, _, _, h, _⟩ := h; cases h) ⟨_, rfl, .inl ⟨_, rfl, rfl⟩⟩ rfl ?_
            refine GA.skip 13 rfl (by kernel_rfl) (by kernel_rfl) (by kernel_rfl) (fun _ _ _ h => by obtain ⟨_, _, _, h, _⟩ := h; cases h) ⟨_, rfl, .inl ⟨_, rfl, rfl⟩⟩ rfl ?_
            refine GA.take 14 rfl (by kernel_rfl) (by kernel_rfl) (by kernel_rfl) (fun _ _ _ h => by obtain ⟨_, _, _, h, _⟩ := h; cases h) trivial rfl (OV.pickT (b := true) (v := .bool true) rfl rfl rfl) ?_
            refine GA.take 15 rfl (by kernel_rfl) (by kernel_rfl) (by kernel_rfl) (fun _ _ _ h => by obtain ⟨_, _, _, h, _⟩ := h; cases h) trivial rfl (OV.move (v := .bool true) rfl) ?_
            refine GA.skip 16 rfl (by kernel_rfl) (by kernel_rfl) (by kernel_rfl) (fun _ _ _ h => by obtain ⟨_, _, _, h, _⟩ := h; cases h) ⟨_, rfl, .inl ⟨_, rfl, rfl⟩⟩ rfl ?_
            refine GA.skip 17 rfl (by kernel_rfl) (by kernel_rfl) (by kernel_rfl) (fun _ _ _ h => by obtain ⟨_, _, _, h, _⟩ := h; cases h) ⟨_, rfl, .inl ⟨_, rfl, rfl⟩⟩ rfl ?_
            refine GA.skip 18 rfl (by kernel_rfl) (by kernel_rfl) (by kernel_rfl) (fun _ _ _ h => by obtain ⟨_, _, _, h, _⟩ := h; cases h) ⟨_, rfl, .inl ⟨_, rfl, rfl⟩⟩ rfl ?_
            refine GA.skip 19 rfl (by kernel_rfl) (by kernel_rfl) (by kernel_rfl) (fun _ _ _ h => by obtain ⟨_, _, _, h, _⟩ := h; cases h) ⟨_, rfl, .inl ⟨_, rfl, rfl⟩⟩ rfl ?_
            refine GA.skip 20 rfl (by kernel_rfl) (by kernel_rfl) (by kernel_rfl) (fun _ _ _ h => by obtain ⟨_, _, _, h, _⟩ := h; cases h) ⟨_, rfl, .inl ⟨_, rfl, rfl⟩⟩ rfl ?_
            refine GA.skip 21 rfl (by kernel_rfl) (by kernel_rfl) (by kernel_rfl) (fun _ _ _ h => by obtain ⟨_, _, _, h, _⟩ := h; cases h) ⟨_, rfl, .inl ⟨_, rfl, rfl⟩⟩ rfl ?_
            refine GA.skip 22 rfl (by kernel_rfl) (by kernel_rfl) (by kernel_rfl) (fun _ _ _ h => by obtain ⟨_, _, _, h, _⟩ := h; cases h) ⟨_, rfl, .inl ⟨_, rfl, rfl⟩⟩ rfl ?_
            refine GA.skip 23 rfl (by kernel_rfl) (by kernel_rfl) (by kernel_rfl) (fun _ _ _ h => by obtain ⟨_, _, _, h, _⟩ := h; cases h) ⟨_, rfl, .inl ⟨_, rfl, rfl⟩⟩ rfl ?_
            refine GA.take 24 rfl (by kernel_rfl) (by kernel_rfl) (by kernel_rfl) (fun _ _ _ h => by obtain ⟨_, _, _, h, _⟩ := h; cases h) trivial rfl (OV.pickT (b := true) (v := .bool true) rfl rfl rfl) ?_
            refine GA.take 25 rfl (by kernel_rfl) (by kernel_rfl) (by kernel_rfl) (fun _ _ _ h => by obtain ⟨_, _, _, h, _⟩ := h; cases h) trivial rfl (OV.assign (v := .bool true) rfl) ?_
            refine GA.done (by kernel_rfl) ?_
            refine GL.nil ?_
            exact GC.ret (fun _ _ hf hs => post_tmp1 rfl rfl hf hs ⟨true, rfl, h⟩)
          · replace h := And.right h hc86
            obtain ⟨x87, hr88, h⟩ := h
            refine GA.take 4 rfl (by kernel_rfl) (by kernel_rfl) (by kernel_rfl) (fun _ _ _ h => by obtain ⟨_, _, _, h, _⟩ := h; cases h) ⟨_, _, rfl, rfl, hc86⟩ rfl (OV.loadT (p := (b1, 0)) (cs := T_api_Value.c x87) rfl rfl rfl hr88) ?_
            obtain ⟨x89, hr90, h⟩ := h
            refine GA.take 5 rfl (by kernel_rfl) (by kernel_rfl) (by kernel_rfl) (fun _ _ _ h => by obtain ⟨_, _, _, h, _⟩ := h; cases h) ⟨_, _, rfl, rfl, hc86⟩ rfl (OV.loadT (p := (b3, 0)) (cs := T_api_Value.c x89) rfl rfl rfl hr90) ?_
            refine GA.eff 6 rfl (by kernel_rfl) ?_
            refine GL.call h ⟨_, _, rfl, rfl, hc86⟩ rfl ok_ref02_Same (vs := [.agg (T_api_Value.c x87).toArray, .agg (T_api_Value.c x89).toArray]) rfl ?_
            rintro _ H93 ⟨r92, rfl, h⟩
            obtain ⟨hle91, h⟩ := h
            refine GA.back hle91 ?_
            refine GA.take 7 rfl (by kernel_rfl) (by kernel_rfl) (by kernel_rfl) (fun _ _ _ h => by obtain ⟨_, _, _, h, _⟩ := h; cases h) trivial rfl (OV.pickF (b := ((Sl.len r39 : Int) : Int) == 0) (v := .bool r92) rfl hc86 rfl) ?_
            refine GA.take 8 rfl (by kernel_rfl) (by kernel_rfl) (by kernel_rfl) (fun _ _ _ h => by obtain ⟨_, _, _, h, _⟩ := h; cases h) trivial rfl (OV.move (v := .bool r92) rfl) ?_
            rcases Bool.eq_false_or_eq_true r92 with hc94 | hc94
            · replace h := And.left h hc94
              refine GA.skip 9 rfl (by kernel_rfl) (by kernel_rfl) (by kernel_rfl) (fun _ _ _ h => by obtain ⟨_, _, _, h, _⟩ := h; cases h) ⟨_, rfl, .inl ⟨_, rfl, hc94⟩⟩ rfl ?_
              refine GA.skip 10 rfl (by kernel_rfl) (by kernel_rfl) (by kernel_rfl) (fun _ _ _ h => by obtain ⟨_, _, _, h, _⟩ := h; cases h) ⟨_, rfl, .inl ⟨_, rfl, hc94⟩⟩ rfl ?_
              refine GA.skip 11 rfl (by kernel_rfl) (by kernel_rfl) (by kernel_rfl) (fun _ _ _ h => by obtain ⟨_, _, _, h, _⟩ := h; cases h) ⟨_, rfl, .inl ⟨_, rfl, hc94⟩⟩ rfl ?_
              refine GA.skip 12 rfl (by kernel_rfl) (by kernel_rfl) (by kernel_rfl) (fun _ _ _ h => by obtain ⟨_, _, _, h, _⟩ := h; cases h) ⟨_, rfl, .inl ⟨_, rfl, hc94⟩⟩ rfl ?_
              refine GA.skip 13 rfl (by kernel_rfl) (by kernel_rfl) (by kernel_rfl) (fun _ _ _ h => by obtain ⟨_, _, _, h, _⟩ := h; cases h) ⟨_, rfl, .inl ⟨_, rfl, hc94⟩⟩ rfl ?_
              refine GA.take 14 rfl (by kernel_rfl) (by kernel_rfl) (by kernel_rfl) (fun _ _ _ h => by obtain ⟨_, _, _, h, _⟩ := h; cases h) trivial rfl (OV.pickT (b := r92) (v := .bool true) rfl hc94 rfl) ?_
              refine GA.take 15 rfl (by kernel_rfl) (by kernel_rfl) (by kernel_rfl) (fun _ _ _ h => by obtain ⟨_, _, _, h, _⟩ := h; cases h) trivial rfl (OV.move (v := .bool true) rfl) ?_
              refine GA.skip 16 rfl (by kernel_rfl) (by kernel_rfl) (by kernel_rfl) (fun _ _ _ h => by obtain ⟨_, _, _, h, _⟩ := h; cases h) ⟨_, rfl, .inl ⟨_, rfl, rfl⟩⟩ rfl ?_
              refine GA.skip 17 rfl (by kernel_rfl) (by kernel_rfl) (by kernel_rfl) (fun _ _ _ h => by obtain ⟨_, _, _, h, _⟩ := h; cases h) ⟨_, rfl, .inl ⟨_, rfl, rfl⟩⟩ rfl ?_
              refine GA.skip 18 rfl (by kernel_rfl) (by kernel_rfl) (by kernel_rfl) (fun _ _ _ h => by obtain ⟨_, _, _, h, _⟩ := h; cases h) ⟨_, rfl, .inl ⟨_, rfl, rfl⟩⟩ rfl ?_
              refine GA.skip 19 rfl (by kernel_rfl) (by kernel_rfl) (by kernel_rfl) (fun _ _ _ h => by obtain ⟨_, _, _, h, _⟩ := h; cases h) ⟨_, rfl, .inl ⟨_, rfl, rfl⟩⟩ rfl ?_
              refine GA.skip 20 rfl (by kernel_rfl) (by kernel_rfl) (by kernel_rfl) (fun _ _ _ h => by obtain ⟨_, _, _, h, _⟩ := h; cases h) ⟨_, rfl, .inl ⟨_, rfl, rfl⟩⟩ rfl ?_
              refine GA.skip 21 rfl (by kernel_rfl) (by kernel_rfl) (by kernel_rfl) (fun _ _ _ h => by obtain ⟨_, _, _, h, _⟩ := h; cases h) ⟨_, rfl, .inl ⟨_, rfl, rfl⟩⟩ rfl ?_
              refine GA.skip 22 rfl (by kernel_rfl) (by kernel_rfl) (by kernel_rfl) (fun _ _ _ h => by obtain ⟨_, _, _, h, _⟩ := h; cases h) ⟨_, rfl, .inl ⟨_, rfl, rfl⟩⟩ rfl ?_
              refine GA.skip 23 rfl (by kernel_rfl) (by kernel_rfl) (by kernel_rfl) (fun _ _ _ h => by obtain ⟨_, _, _, h, _⟩ := h; cases h) ⟨_, rfl, .inl ⟨_, rfl, rfl⟩⟩ rfl ?_
              refine GA.take 24 rfl (by kernel_rfl) (by kernel_rfl) (by kernel_rfl) (fun _ _ _ h => by obtain ⟨_, _, _, h, _⟩ := h; cases h) trivial rfl (OV.pickT (b := true) (v := .bool true) rfl rfl rfl) ?_
              refine GA.take 25 rfl (by kernel_rfl) (by kernel_rfl) (by kernel_rfl) (fun _ _ _ h => by obtain ⟨_, _, _, h, _⟩ := h; cases h) trivial rfl (OV.assign (v := .bool true) rfl) ?_
              refine GA.done (by kernel_rfl) ?_
              refine GL.nil ?_
              exact GC.ret (fun _ _ hf hs => post_tmp1 rfl rfl hf hs ⟨true, rfl, h⟩)
            · replace h := And.right h hc94
              refine GA.take 9 rfl (by kernel_rfl) (by kernel_rfl) (by kernel_rfl) (fun _ _ _ h => by obtain ⟨_, _, _, h, _⟩ := h; cases h) ⟨_, _, rfl, rfl, hc94⟩ rfl (OV.move (v := slv r39) rfl) ?_
              refine GA.take 10 rfl (by kernel_rfl) (by kernel_rfl) (by kernel_rfl) (fun _ _ _ h => by obtain ⟨_, _, _, h, _⟩ := h; cases h) ⟨_, _, rfl, rfl, hc94⟩ rfl (OV.lenSl (s := r39) rfl rfl) ?_
              refine GA.take 11 rfl (by kernel_rfl) (by kernel_rfl) (by kernel_rfl) (fun _ _ _ h => by obtain ⟨_, _, _, h, _⟩ := h; cases h) ⟨_, _, rfl, rfl, hc94⟩ rfl (OV.move (v := slv r36) rfl) ?_
              refine GA.take 12 rfl (by kernel_rfl) (by kernel_rfl) (by kernel_rfl) (fun _ _ _ h => by obtain ⟨_, _, _, h, _⟩ := h; cases h) ⟨_, _, rfl, rfl, hc94⟩ rfl (OV.lenSl (s := r36) rfl rfl) ?_
              refine GA.take 13 rfl (by kernel_rfl) (by kernel_rfl) (by kernel_rfl) (fun _ _ _ h => by obtain ⟨_, _, _, h, _⟩ := h; cases h) ⟨_, _, rfl, rfl, hc94⟩ rfl (OV.ibin (v := .bool (decide (((Sl.len r39 : Int) : Int) > (Sl.len r36 : Int)))) rfl rfl rfl) ?_
              refine GA.take 14 rfl (by kernel_rfl) (by kernel_rfl) (by kernel_rfl) (fun _ _ _ h => by obtain ⟨_, _, _, h, _⟩ := h; cases h) trivial rfl (OV.pickF (b := r92) (v := .bool (decide (((Sl.len r39 : Int) : Int) > (Sl.len r36 : Int)))) rfl hc94 rfl) ?_
              refine GA.take 15 rfl (by kernel_rfl) (by kernel_rfl) (by kernel_rfl) (fun _ _ _ h => by obtain ⟨_, _, _, h, _⟩ := h; cases h) trivial rfl (OV.move (v := .bool (decide (((Sl.len r39 : Int) : Int) > (Sl.len r36 : Int)))) rfl) ?_
              rcases Bool.eq_false_or_eq_true (decide (((Sl.len r39 : Int) : Int) > (Sl.len r36 : Int))) with hc95 | hc95
              · replace h := And.left h hc95
                refine GA.skip 16 rfl (by kernel_rfl) (by kernel_rfl) (by kernel_rfl) (fun _ _ _ h => by obtain ⟨_, _, _, h, _⟩ := h; cases h) ⟨_, rfl, .inl ⟨_, rfl, hc95⟩⟩ rfl ?_
                refine GA.skip 17 rfl (by kernel_rfl) (by kernel_rfl) (by kernel_rfl) (fun _ _ _ h => by obtain ⟨_, _, _, h, _⟩ := h; cases h) ⟨_, rfl, .inl ⟨_, rfl, hc95⟩⟩ rfl ?_
                refine GA.skip 18 rfl (by kernel_rfl) (by kernel_rfl) (by kernel_rfl) (fun _ _ _ h => by obtain ⟨_, _, _, h, _⟩ := h; cases h) ⟨_, rfl, .inl ⟨_, rfl, hc95⟩⟩ rfl ?_
                refine GA.skip 19 rfl (by kernel_rfl) (by kernel_rfl) (by kernel_rfl) (fun _ _ _ h => by obtain ⟨_, _, _, h, _⟩ := h; cases h) ⟨_, rfl, .inl ⟨_, rfl, hc95⟩⟩ rfl ?_
                refine GA.skip 20 rfl (by kernel_rfl) (by kernel_rfl) (by kernel_rfl) (fun _ _ _ h => by obtain ⟨_, _, _, h, _⟩ := h; cases h) ⟨_, rfl, .inl ⟨_, rfl, hc95⟩⟩ rfl ?_
                refine GA.skip 21 rfl (by kernel_rfl) (by kernel_rfl) (by kernel_rfl) (fun _ _ _ h => by obtain ⟨_, _, _, h, _⟩ := h; cases h) ⟨_, rfl, .inl ⟨_, rfl, hc95⟩⟩ rfl ?_
                refine GA.skip 22 rfl (by kernel_rfl) (by kernel_rfl) (by kernel_rfl) (fun _ _ _ h => by obtain ⟨_, _, _, h, _⟩ := h; cases h) ⟨_, rfl, .inl ⟨_, rfl, hc95⟩⟩ rfl ?_
                refine GA.skip 23 rfl (by kernel_rfl) (by kernel_rfl) (by kernel_rfl) (fun _ _ _ h => by obtain ⟨_, _, _, h, _⟩ := h; cases h) ⟨_, rfl, .inl ⟨_, rfl, hc95⟩⟩ rfl ?_
                refine GA.take 24 rfl (by kernel_rfl) (by kernel_rfl) (by kernel_rfl) (fun _ _ _ h => by obtain ⟨_, _, _, h, _⟩ := h; cases h) trivial rfl (OV.pickT (b := decide (((Sl.len r39 : Int) : Int) > (Sl.len r36 : Int))) (v := .bool true) rfl hc95 rfl) ?_
                refine GA.take 25 rfl (by kernel_rfl) (by kernel_rfl) (by kernel_rfl) (fun _ _ _ h => by obtain ⟨_, _, _, h, _⟩ := h; cases h) trivial rfl (OV.assign (v := .bool true) rfl) ?_
                refine GA.done (by kernel_rfl) ?_
                refine GL.nil ?_
                exact GC.ret (fun _ _ hf hs => post_tmp1 rfl rfl hf hs ⟨true, rfl, h⟩)
              · replace h := And.right h hc95
                refine GA.take 16 rfl (by kernel_rfl) (by kernel_rfl) (by kernel_rfl) (fun _ _ _ h => by obtain ⟨_, _, _, h, _⟩ := h; cases h) ⟨_, _, rfl, rfl, hc95⟩ rfl (OV.move (v := slv r36) rfl) ?_
                refine GA.take 17 rfl (by kernel_rfl) (by kernel_rfl) (by kernel_rfl) (fun _ _ _ h => by obtain ⟨_, _, _, h, _⟩ := h; cases h) ⟨_, _, rfl, rfl, hc95⟩ rfl (OV.move (v := slv r39) rfl) ?_
                refine GA.take 18 rfl (by kernel_rfl) (by kernel_rfl) (by kernel_rfl) (fun _ _ _ h => by obtain ⟨_, _, _, h, _⟩ := h; cases h) ⟨_, _, rfl, rfl, hc95⟩ rfl (OV.lenSl (s := r39) rfl rfl) ?_
                obtain ⟨h97, h98, h99, h100, t96, h101, h⟩ := h
                refine GA.take 19 rfl (by kernel_rfl) (by kernel_rfl) (by kernel_rfl) (fun _ _ _ h => by obtain ⟨_, _, _, h, _⟩ := h; cases h) ⟨_, _, rfl, rfl, hc95⟩ rfl (OV.sliceSl (s := r36) h97 h98 h99 h100 h101 rfl rfl rfl rfl rfl rfl rfl (fun h => by first | rfl | cases h) rfl rfl) ?_
                obtain ⟨t102, h103, h104, h⟩ := h
                refine GA.take 20 rfl (by kernel_rfl) (by kernel_rfl) (by kernel_rfl) (fun _ _ _ h => by obtain ⟨_, _, _, h, _⟩ := h; cases h) ⟨_, _, rfl, rfl, hc95⟩ rfl (OV.b2s (b := t96) (s := t102) h103 h104 rfl rfl rfl rfl) ?_
                refine GA.take 21 rfl (by kernel_rfl) (by kernel_rfl) (by kernel_rfl) (fun _ _ _ h => by obtain ⟨_, _, _, h, _⟩ := h; cases h) ⟨_, _, rfl, rfl, hc95⟩ rfl (OV.move (v := slv r39) rfl) ?_
                obtain ⟨t105, h106, h107, h⟩ := h
                refine GA.take 22 rfl (by kernel_rfl) (by kernel_rfl) (by kernel_rfl) (fun _ _ _ h => by obtain ⟨_, _, _, h, _⟩ := h; cases h) ⟨_, _, rfl, rfl, hc95⟩ rfl (OV.b2s (b := r39) (s := t105) h106 h107 rfl rfl rfl rfl) ?_
                refine GA.take 23 rfl (by kernel_rfl) (by kernel_rfl) (by kernel_rfl) (fun _ _ _ h => by obtain ⟨_, _, _, h, _⟩ := h; cases h) ⟨_, _, rfl, rfl, hc95⟩ rfl (OV.sbin (a := t102) (b := t105) (v := .bool (!(t102 == t105))) rfl rfl rfl) ?_
                refine GA.take 24 rfl (by kernel_rfl) (by kernel_rfl) (by kernel_rfl) (fun _ _ _ h => by obtain ⟨_, _, _, h, _⟩ := h; cases h) trivial rfl (OV.pickF (b := decide (((Sl.len r39 : Int) : Int) > (Sl.len r36 : Int))) (v := .bool (!(t102 == t105))) rfl hc95 rfl) ?_
                refine GA.take 25 rfl (by kernel_rfl) (by kernel_rfl) (by kernel_rfl) (fun _ _ _ h => by obtain ⟨_, _, _, h, _⟩ := h; cases h) trivial rfl (OV.assign (v := .bool (!(t102 == t105))) rfl) ?_
                refine GA.done (by kernel_rfl) ?_
                refine GL.nil ?_
                exact GC.ret (fun _ _ hf hs => post_tmp1 rfl rfl hf hs ⟨(!(t102 == t105)), rfl, h⟩)

def sh_law03_wide (C : Ctx) (p_v : T_api_Value) (K : Bool → Heap → Prop) (H : Heap) : Prop :=
  nw (T_api_Value.c p_v) (fun b1 H2 =>
 ldT H2 T_api_Value.c (b1, 0) fun x3 =>
 c_law03_parts C x3 (fun r5 H6 =>
 K (decide ((r5 : Int) > 2000)) H6) H2) H

theorem ad_law03_wide (C : Ctx) (p_v : T_api_Value) (K : Bool → Heap → Prop) (H : Heap) (h : sh_law03_wide C p_v K H) : c_law03_wide C p_v K H := by
  refine Spec.enter Tryd.func10 rfl Tryd.ntmps10 rfl ?_
  refine GC.sub [(0, .agg (T_api_Value.c p_v).toArray)] ⟨rfl, trivial⟩ ?_
  refine GC.seq ?_
  refine GC.region ?_
  refine GL.box (v := .agg (T_api_Value.c p_v).toArray) (cs := T_api_Value.c p_v) h trivial rfl rfl rfl ?_
  intro b1 H2 h
  refine GL.val trivial rfl (OV.assign (v := .bool false) rfl) ?_
  refine GL.nil ?_
  refine GC.seq ?_
  refine GC.region ?_
  obtain ⟨x3, hr4, h⟩ := h
  refine GL.val trivial rfl (OV.loadT (p := (b1, 0)) (cs := T_api_Value.c x3) rfl rfl rfl hr4) ?_
  refine GL.call h trivial rfl ok_law03_parts (vs := [.agg (T_api_Value.c x3).toArray]) rfl ?_
  rintro _ H6 ⟨r5, rfl, h⟩
  refine GL.val trivial rfl (OV.ibin (v := .bool (decide ((r5 : Int) > 2000))) rfl rfl rfl) ?_
  refine GL.val trivial rfl (OV.assign (v := .bool (decide ((r5 : Int) > 2000))) rfl) ?_
  refine GL.nil ?_
  exact GC.ret (fun _ _ hf hs => post_tmp1 rfl rfl hf hs ⟨(decide ((r5 : Int) > 2000)), rfl, h⟩)

def sh_law03_works (C : Ctx) (K : Bool → Heap → Prop) (H : Heap) : Prop :=
  c_code_Count C Sl.nil 300 (fun r1 H2 =>
 c_code_Num C r1 (-1) (fun r3 H4 =>
 c_code_Str C r3 [97, 0] (fun r5 H6 =>
 c_code_Flag C r5 true (fun r7 H8 =>
 c_code_NewReader C r7 (fun r9 H10 =>
 b2s r7 (fun t11 =>
 jn (α := Bool) (fun b14 H20 =>
 jn (α := Bool) (fun b21 H27 =>
 jn (α := Bool) (fun b28 H34 =>
 jn (α := Bool) (fun b35 H41 =>
 jn (α := Bool) (fun b42 H48 =>
 jn (α := Bool) (fun b49 H55 =>
 K b49 H55)
 (fun J50 => ift b42
 (c_code_Reader_Done C r9 (fun r53 H54 =>
 J50 r53 H54) H48)
 (J50 false H48)))
 (fun J43 => ift b35
 (c_code_Reader_Flag C r9 (fun r46 H47 =>
 J43 r46 H47) H41)
 (J43 false H41)))
 (fun J36 => ift b28
 (c_code_Reader_Done C r9 (fun r39 H40 =>
 J36 (!r39) H40) H34)
 (J36 false H34)))
 (fun J29 => ift b21
 (c_code_Reader_Str C r9 2 (fun r32 H33 =>
 J29 (r32 == ([97, 0] : Str)) H33) H27)
 (J29 false H27)))
 (fun J22 => ift b14
 (c_code_Reader_Num C r9 (fun r25 H26 =>
 J22 ((r25 : Int) == (-1)) H26) H20)
 (J22 false H20)))
 (fun J15 => ift (t11 == ([2, 1, 44, 127, 97, 0, 255, 0, 0, 1] : Str))
 (c_code_Reader_Count C r9 300 (fun r18 H19 =>
 J15 ((r18 : Int) == 300) H19) H10)
 (J15 false H10))) H10) H8) H6) H4) H2) H

theorem ad_law03_works (C : Ctx) (K : Bool → Heap → Prop) (H : Heap) (h : sh_law03_works C  K H) : c_law03_works C  K H := by
  refine Spec.enter Tryd.func11 rfl Tryd.ntmps11 rfl ?_
  refine GC.sub [] trivial ?_
  refine GC.seq ?_
  refine GC.region ?_
  refine GL.val trivial rfl (OV.assign (v := .bool false) rfl) ?_
  refine GL.nil ?_
  refine GC.seq ?_
  refine GC.region ?_
  refine GL.call h trivial rfl ok_code_Count (vs := [slv Sl.nil, .int .i64 300]) rfl ?_
  rintro _ H2 ⟨r1, rfl, h⟩
  refine GL.call h trivial rfl ok_code_Num (vs := [slv r1, .int .i64 (-1)]) rfl ?_
  rintro _ H4 ⟨r3, rfl, h⟩
  refine GL.call h trivial rfl ok_code_Str (vs := [slv r3, sv [97, 0]]) rfl ?_
  rintro _ H6 ⟨r5, rfl, h⟩
  refine GL.call h trivial rfl ok_code_Flag (vs := [slv r5, .bool true]) rfl ?_
  rintro _ H8 ⟨r7, rfl, h⟩
  refine GL.val trivial rfl (OV.assign (v := slv r7) rfl) ?_
  refine GL.nil ?_
  refine GC.seq ?_
  refine GC.region ?_
  refine GL.val trivial rfl (OV.move (v := slv r7) rfl) ?_
  refine GL.call h trivial rfl ok_code_NewReader (vs := [slv r7]) rfl ?_
  rintro _ H10 ⟨r9, rfl, h⟩
  refine GL.val trivial rfl (OV.assign (v := pv r9) rfl) ?_
  refine GL.nil ?_
  refine GC.seq ?_
  refine GC.region ?_
  refine GL.val trivial rfl (OV.move (v := slv r7) rfl) ?_
  obtain ⟨t11, h12, h13, h⟩ := h
  refine GL.val trivial rfl (OV.b2s (b := r7) (s := t11) h12 h13 rfl rfl rfl rfl) ?_
  refine GL.val trivial rfl (OV.sbin (a := t11) (b := ([2, 1, 44, 127, 97, 0, 255, 0, 0, 1] : Str)) (v := .bool (t11 == ([2, 1, 44, 127, 97, 0, 255, 0, 0, 1] : Str))) rfl rfl rfl) ?_
  refine GL.val trivial rfl (OV.move (v := .bool (t11 == ([2, 1, 44, 127, 97, 0, 255, 0, 0, 1] : Str))) rfl) ?_
  obtain ⟨J15, h, hR16⟩ := h
  refine GL.cut (α := Bool) 4 J15 (fun b14 => [(16, .bool b14), (2, pv r9)]) ?_ ?_
  · rcases Bool.eq_false_or_eq_true (t11 == ([2, 1, 44, 127, 97, 0, 255, 0, 0, 1] : Str)) with hc17 | hc17
    · skip
      replace h := And.left h hc17
      refine GL.val ⟨_, _, rfl, rfl, hc17⟩ rfl (OV.move (v := pv r9) rfl) ?_
      refine GL.call h ⟨_, _, rfl, rfl, hc17⟩ rfl ok_code_Reader_Count (vs := [pv r9, .int .i64 300]) rfl ?_
      rintro _ H19 ⟨r18, rfl, h⟩
      refine GL.val ⟨_, _, rfl, rfl, hc17⟩ rfl (OV.ibin (v := .bool ((r18 : Int) == 300)) rfl rfl rfl) ?_
      refine GL.val trivial rfl (OV.pickT (b := t11 == ([2, 1, 44, 127, 97, 0, 255, 0, 0, 1] : Str)) (v := .bool ((r18 : Int) == 300)) rfl hc17 rfl) ?_
      exact GL.jump (fun _ _ h => h) ((r18 : Int) == 300) h ⟨rfl, rfl, trivial⟩
    · skip
      replace h := And.right h hc17
      refine GL.skip ⟨_, rfl, .inl ⟨_, rfl, hc17⟩⟩ rfl ?_
      refine GL.skip ⟨_, rfl, .inl ⟨_, rfl, hc17⟩⟩ rfl ?_
      refine GL.skip ⟨_, rfl, .inl ⟨_, rfl, hc17⟩⟩ rfl ?_
      refine GL.val trivial rfl (OV.pickF (b := t11 == ([2, 1, 44, 127, 97, 0, 255, 0, 0, 1] : Str)) (v := .bool false) rfl hc17 rfl) ?_
      exact GL.jump (fun _ _ h => h) false h ⟨rfl, rfl, trivial⟩
  intro b14 H20 h
  replace h := hR16 b14 H20 h
  refine GL.val trivial rfl (OV.move (v := .bool b14) rfl) ?_
  obtain ⟨J22, h, hR23⟩ := h
  refine GL.cut (α := Bool) 4 J22 (fun b21 => [(21, .bool b21), (2, pv r9)]) ?_ ?_
  · rcases Bool.eq_false_or_eq_true b14 with hc24 | hc24
    · skip
      replace h := And.left h hc24
      refine GL.val ⟨_, _, rfl, rfl, hc24⟩ rfl (OV.move (v := pv r9) rfl) ?_
      refine GL.call h ⟨_, _, rfl, rfl, hc24⟩ rfl ok_code_Reader_Num (vs := [pv r9]) rfl ?_
      rintro _ H26 ⟨r25, rfl, h⟩
      refine GL.val ⟨_, _, rfl, rfl, hc24⟩ rfl (OV.ibin (v := .bool ((r25 : Int) == (-1))) rfl rfl rfl) ?_
      refine GL.val trivial rfl (OV.pickT (b := b14) (v := .bool ((r25 : Int) == (-1))) rfl hc24 rfl) ?_
      exact GL.jump (fun _ _ h => h) ((r25 : Int) == (-1)) h ⟨rfl, rfl, trivial⟩
    · skip
      replace h := And.right h hc24
      refine GL.skip ⟨_, rfl, .inl ⟨_, rfl, hc24⟩⟩ rfl ?_
      refine GL.skip ⟨_, rfl, .inl ⟨_, rfl, hc24⟩⟩ rfl ?_
      refine GL.skip ⟨_, rfl, .inl ⟨_, rfl, hc24⟩⟩ rfl ?_
      refine GL.val trivial rfl (OV.pickF (b := b14) (v := .bool false) rfl hc24 rfl) ?_
      exact GL.jump (fun _ _ h => h) false h ⟨rfl, rfl, trivial⟩
  intro b21 H27 h
  replace h := hR23 b21 H27 h
  refine GL.val trivial rfl (OV.move (v := .bool b21) rfl) ?_
  obtain ⟨J29, h, hR30⟩ := h
  refine GL.cut (α := Bool) 4 J29 (fun b28 => [(26, .bool b28), (2, pv r9)]) ?_ ?_
  · rcases Bool.eq_false_or_eq_true b21 with hc31 | hc31
    · skip
      replace h := And.left h hc31
      refine GL.val ⟨_, _, rfl, rfl, hc31⟩ rfl (OV.move (v := pv r9) rfl) ?_
      refine GL.call h ⟨_, _, rfl, rfl, hc31⟩ rfl ok_code_Reader_Str (vs := [pv r9, .int .i64 2]) rfl ?_
      rintro _ H33 ⟨r32, rfl, h⟩
      refine GL.val ⟨_, _, rfl, rfl, hc31⟩ rfl (OV.sbin (a := r32) (b := ([97, 0] : Str)) (v := .bool (r32 == ([97, 0] : Str))) rfl rfl rfl) ?_
      refine GL.val trivial rfl (OV.pickT (b := b21) (v := .bool (r32 == ([97, 0] : Str))) rfl hc31 rfl) ?_
      exact GL.jump (fun _ _ h => h) (r32 == ([97, 0] : Str)) h ⟨rfl, rfl, trivial⟩
    · skip
      replace h := And.right h hc31
      refine GL.skip ⟨_, rfl, .inl ⟨_, rfl, hc31⟩⟩ rfl ?_
      refine GL.skip ⟨_, rfl, .inl ⟨_, rfl, hc31⟩⟩ rfl ?_
      refine GL.skip ⟨_, rfl, .inl ⟨_, rfl, hc31⟩⟩ rfl ?_
      refine GL.val trivial rfl (OV.pickF (b := b21) (v := .bool false) rfl hc31 rfl) ?_
      exact GL.jump (fun _ _ h => h) false h ⟨rfl, rfl, trivial⟩
  intro b28 H34 h
  replace h := hR30 b28 H34 h
  refine GL.val trivial rfl (OV.move (v := .bool b28) rfl) ?_
  obtain ⟨J36, h, hR37⟩ := h
  refine GL.cut (α := Bool) 4 J36 (fun b35 => [(31, .bool b35), (2, pv r9)]) ?_ ?_
  · rcases Bool.eq_false_or_eq_true b28 with hc38 | hc38
    · skip
      replace h := And.left h hc38
      refine GL.val ⟨_, _, rfl, rfl, hc38⟩ rfl (OV.move (v := pv r9) rfl) ?_
      refine GL.call h ⟨_, _, rfl, rfl, hc38⟩ rfl ok_code_Reader_Done (vs := [pv r9]) rfl ?_
      rintro _ H40 ⟨r39, rfl, h⟩
      refine GL.val ⟨_, _, rfl, rfl, hc38⟩ rfl (OV.not rfl) ?_
      refine GL.val trivial rfl (OV.pickT (b := b28) (v := .bool (!r39)) rfl hc38 rfl) ?_
      exact GL.jump (fun _ _ h => h) (!r39) h ⟨rfl, rfl, trivial⟩
    · skip
      replace h := And.right h hc38
      refine GL.skip ⟨_, rfl, .inl ⟨_, rfl, hc38⟩⟩ rfl ?_
      refine GL.skip ⟨_, rfl, .inl ⟨_, rfl, hc38⟩⟩ rfl ?_
      refine GL.skip ⟨_, rfl, .inl ⟨_, rfl, hc38⟩⟩ rfl ?_
      refine GL.val trivial rfl (OV.pickF (b := b28) (v := .bool false) rfl hc38 rfl) ?_
      exact GL.jump (fun _ _ h => h) false h ⟨rfl, rfl, trivial⟩
  intro b35 H41 h
  replace h := hR37 b35 H41 h
  refine GL.val trivial rfl (OV.move (v := .bool b35) rfl) ?_
  obtain ⟨J43, h, hR44⟩ := h
  refine GL.cut (α := Bool) 3 J43 (fun b42 => [(35, .bool b42), (2, pv r9)]) ?_ ?_
  · rcases Bool.eq_false_or_eq_true b35 with hc45 | hc45
    · skip
      replace h := And.left h hc45
      refine GL.val ⟨_, _, rfl, rfl, hc45⟩ rfl (OV.move (v := pv r9) rfl) ?_
      refine GL.call h ⟨_, _, rfl, rfl, hc45⟩ rfl ok_code_Reader_Flag (vs := [pv r9]) rfl ?_
      rintro _ H47 ⟨r46, rfl, h⟩
      refine GL.val trivial rfl (OV.pickT (b := b35) (v := .bool r46) rfl hc45 rfl) ?_
      exact GL.jump (fun _ _ h => h) r46 h ⟨rfl, rfl, trivial⟩
    · skip
      replace h := And.right h hc45
      refine GL.skip ⟨_, rfl, .inl ⟨_, rfl, hc45⟩⟩ rfl ?_
      refine GL.skip ⟨_, rfl, .inl ⟨_, rfl, hc45⟩⟩ rfl ?_
      refine GL.val trivial rfl (OV.pickF (b := b35) (v := .bool false) rfl hc45 rfl) ?_
      exact GL.jump (fun _ _ h => h) false h ⟨rfl, rfl, trivial⟩
  intro b42 H48 h
  replace h := hR44 b42 H48 h
  refine GL.val trivial rfl (OV.move (v := .bool b42) rfl) ?_
  obtain ⟨J50, h, hR51⟩ := h
  refine GL.cut (α := Bool) 3 J50 (fun b49 => [(39, .bool b49)]) ?_ ?_
  · rcases Bool.eq_false_or_eq_true b42 with hc52 | hc52
    · skip
      replace h := And.left h hc52
      refine GL.val ⟨_, _, rfl, rfl, hc52⟩ rfl (OV.move (v := pv r9) rfl) ?_
      refine GL.call h ⟨_, _, rfl, rfl, hc52⟩ rfl ok_code_Reader_Done (vs := [pv r9]) rfl ?_
      rintro _ H54 ⟨r53, rfl, h⟩
      refine GL.val trivial rfl (OV.pickT (b := b42) (v := .bool r53) rfl hc52 rfl) ?_
      exact GL.jump (fun _ _ h => h) r53 h ⟨rfl, trivial⟩
    · skip
      replace h := And.right h hc52
      refine GL.skip ⟨_, rfl, .inl ⟨_, rfl, hc52⟩⟩ rfl ?_
      refine GL.skip ⟨_, rfl, .inl ⟨_, rfl, hc52⟩⟩ rfl ?_
      refine GL.val trivial rfl (OV.pickF (b := b42) (v := .bool false) rfl hc52 rfl) ?_
      exact GL.jump (fun _ _ h => h) false h ⟨rfl, trivial⟩
  intro b49 H55 h
  replace h := hR51 b49 H55 h
  refine GL.val trivial rfl (OV.assign (v := .bool b49) rfl) ?_
  refine GL.nil ?_
  exact GC.ret (fun _ _ hf hs => post_tmp1 rfl rfl hf hs ⟨b49, rfl, h⟩)

def sh_code_Num (C : Ctx) (p_b : Sl) (p_n : Int) (K : Sl → Heap → Prop) (H : Heap) : Prop :=
  c_code_behind C p_b (fun r1 H2 =>
 c_code_pen_num C r1 p_n (fun H3 =>
 nck r1 fun p4 =>
 ldL H3 (p4.1, p4.2 + 0) fun x6 =>
 K x6 H3) H2) H

theorem ad_code_Num (C : Ctx) (p_b : Sl) (p_n : Int) (K : Sl → Heap → Prop) (H : Heap) (h : sh_code_Num C p_b p_n K H) : c_code_Num C p_b p_n K H := by
  refine Spec.enter Tryd.func13 rfl Tryd.ntmps13 rfl ?_
  refine GC.sub [(0, slv p_b), (1, .int .i64 p_n)] ⟨rfl, rfl, trivial⟩ ?_
  refine GC.seq ?_
  refine GC.region ?_
  refine GL.val trivial rfl (OV.assign (v := slv Sl.nil) rfl) ?_
  refine GL.nil ?_
  refine GC.seq ?_
  refine GC.region ?_
  refine GL.val trivial rfl (OV.move (v := slv p_b) rfl) ?_
  refine GL.call h trivial rfl ok_code_behind (vs := [slv p_b]) rfl ?_
  rintro _ H2 ⟨r1, rfl, h⟩
  refine GL.val trivial rfl (OV.assign (v := pv r1) rfl) ?_
  refine GL.nil ?_
  refine GC.seq ?_
  refine GC.region ?_
  refine GL.val trivial rfl (OV.move (v := pv r1) rfl) ?_
  refine GL.val trivial rfl (OV.move (v := .int .i64 p_n) rfl) ?_
  refine GL.call h trivial rfl ok_code_pen_num (vs := [pv r1, .int .i64 p_n]) rfl ?_
  rintro _ H3 ⟨rfl, h⟩
  refine GL.nil ?_
  refine GC.seq ?_
  refine GC.region ?_
  refine GL.val trivial rfl (OV.move (v := pv r1) rfl) ?_
  obtain ⟨p4, hp5, h⟩ := h
  refine GL.val trivial rfl (OV.nilCheck (q := r1) rfl hp5) ?_
  refine GL.val trivial rfl (OV.fieldAddr (p := p4) rfl rfl) ?_
  obtain ⟨x6, hr7, h⟩ := h
  refine GL.val trivial rfl (OV.load (p := (p4.1, p4.2 + 0)) rfl rfl hr7) ?_
  refine GL.val trivial rfl (OV.assign (v := slv x6) rfl) ?_
  refine GL.nil ?_
  exact GC.ret (fun _ _ hf hs => post_tmp1 rfl rfl hf hs ⟨x6, rfl, h⟩)

end Sx
set_option linter.unusedVariables false
set_option maxRecDepth 100000
namespace Sx
open Go Go.Proofs
def sh_code_Count (C : Ctx) (p_b : Sl) (p_n : Int) (K : Sl → Heap → Prop) (H : Heap) : Prop :=
  c_code_behind C p_b (fun r1 H2 =>
 jn (α := Unit) (fun x4 H5 =>
 nck r1 fun p10 =>
 ldL H5 (p10.1, p10.2 + 0) fun x12 =>
 K x12 H5)
 (fun J3 => ift ((decide ((p_n : Int) ≥ 0)) && (decide ((p_n : Int) ≤ 2147483647)))
 (c_code_pen_number C r1 0 (w .u64 p_n) (fun H9 =>
 J3 () H9) H2)
 (J3 () H2))) H

theorem ad_code_Count (C : Ctx) (p_b : Sl) (p_n : Int) (K : Sl → Heap → Prop) (H : Heap) (h : sh_code_Count C p_b p_n K H) : c_code_Count C p_b p_n K H := by
  refine Spec.enter Tryd.func15 rfl Tryd.ntmps15 rfl ?_
  refine GC.sub [(0, slv p_b), (1, .int .i64 p_n)] ⟨rfl, rfl, trivial⟩ ?_
  refine GC.seq ?_
  refine GC.region ?_
  refine GL.val trivial rfl (OV.assign (v := slv Sl.nil) rfl) ?_
  refine GL.nil ?_
  refine GC.seq ?_
  refine GC.region ?_
  refine GL.val trivial rfl (OV.move (v := slv p_b) rfl) ?_
  refine GL.call h trivial rfl ok_code_behind (vs := [slv p_b]) rfl ?_
  rintro _ H2 ⟨r1, rfl, h⟩
  refine GL.val trivial rfl (OV.assign (v := pv r1) rfl) ?_
  refine GL.nil ?_
  obtain ⟨J3, h, hR6⟩ := h
  refine GC.join (α := Unit) J3 (fun _ => [(5, pv r1)]) ?_ ?_
  · skip
    refine GC.seq ?_
    refine GC.region ?_
    refine GL.val trivial rfl (OV.move (v := .int .i64 p_n) rfl) ?_
    refine GL.val trivial rfl (OV.ibin (v := .bool (decide ((p_n : Int) ≥ 0))) rfl rfl rfl) ?_
    refine GL.val trivial rfl (OV.move (v := .bool (decide ((p_n : Int) ≥ 0))) rfl) ?_
    refine GL.cut0 3 [(13, .bool ((decide ((p_n : Int) ≥ 0)) && (decide ((p_n : Int) ≤ 2147483647)))), (1, .int .i64 p_n), (5, pv r1)] ?_ ?_
    · rcases Bool.eq_false_or_eq_true (decide ((p_n : Int) ≥ 0)) with hc7 | hc7
      · skip
        refine GL.val ⟨_, _, rfl, rfl, hc7⟩ rfl (OV.move (v := .int .i64 p_n) rfl) ?_
        refine GL.val ⟨_, _, rfl, rfl, hc7⟩ rfl (OV.ibin (v := .bool (decide ((p_n : Int) ≤ 2147483647))) rfl rfl rfl) ?_
        refine GL.val trivial rfl (OV.pickT (b := decide ((p_n : Int) ≥ 0)) (v := .bool (decide ((p_n : Int) ≤ 2147483647))) rfl hc7 rfl) ?_
        exact GL.jump0 (fun _ _ h => h) () rfl ⟨(by rw [hc7]; rfl), rfl, rfl, trivial⟩
      · skip
        refine GL.skip ⟨_, rfl, .inl ⟨_, rfl, hc7⟩⟩ rfl ?_
        refine GL.skip ⟨_, rfl, .inl ⟨_, rfl, hc7⟩⟩ rfl ?_
        refine GL.val trivial rfl (OV.pickF (b := decide ((p_n : Int) ≥ 0)) (v := .bool false) rfl hc7 rfl) ?_
        exact GL.jump0 (fun _ _ h => h) () rfl ⟨(by rw [hc7]; rfl), rfl, rfl, trivial⟩
    refine GL.nil ?_
    refine GC.cond (b := (decide ((p_n : Int) ≥ 0)) && (decide ((p_n : Int) ≤ 2147483647))) rfl (fun hc8 => ?_) (fun hc8 => ?_)
    · replace h := And.left h hc8
      refine GC.region ?_
      refine GL.val trivial rfl (OV.move (v := pv r1) rfl) ?_
      refine GL.val trivial rfl (OV.move (v := .int .i64 p_n) rfl) ?_
      refine GL.val trivial rfl (OV.convInt rfl rfl rfl) ?_
      refine GL.call h trivial rfl ok_code_pen_number (vs := [pv r1, .int .u8 0, .int .u64 (w .u64 p_n)]) rfl ?_
      rintro _ H9 ⟨rfl, h⟩
      exact GL.jump (fun _ _ h => h) () h ⟨rfl, trivial⟩
    · replace h := And.right h hc8
      exact GC.jump (fun _ _ h => h) () h ⟨rfl, trivial⟩
  · intro x4 H5 h
    replace h := hR6 x4 H5 h
    refine GC.seq ?_
    refine GC.region ?_
    refine GL.val trivial rfl (OV.move (v := pv r1) rfl) ?_
    obtain ⟨p10, hp11, h⟩ := h
    refine GL.val trivial rfl (OV.nilCheck (q := r1) rfl hp11) ?_
    refine GL.val trivial rfl (OV.fieldAddr (p := p10) rfl rfl) ?_
    obtain ⟨x12, hr13, h⟩ := h
    refine GL.val trivial rfl (OV.load (p := (p10.1, p10.2 + 0)) rfl rfl hr13) ?_
    refine GL.val trivial rfl (OV.assign (v := slv x12) rfl) ?_
    refine GL.nil ?_
    exact GC.ret (fun _ _ hf hs => post_tmp1 rfl rfl hf hs ⟨x12, rfl, h⟩)

def sh_code_Str (C : Ctx) (p_b : Sl) (p_s : Str) (K : Sl → Heap → Prop) (H : Heap) : Prop :=
  c_code_behind C p_b (fun r1 H2 =>
 c_code_pen_text C r1 p_s (fun H3 =>
 nck r1 fun p4 =>
 ldL H3 (p4.1, p4.2 + 0) fun x6 =>
 K x6 H3) H2) H

theorem ad_code_Str (C : Ctx) (p_b : Sl) (p_s : Str) (K : Sl → Heap → Prop) (H : Heap) (h : sh_code_Str C p_b p_s K H) : c_code_Str C p_b p_s K H := by
  refine Spec.enter Tryd.func17 rfl Tryd.ntmps17 rfl ?_
  refine GC.sub [(0, slv p_b), (1, sv p_s)] ⟨rfl, rfl, trivial⟩ ?_
  refine GC.seq ?_
  refine GC.region ?_
  refine GL.val trivial rfl (OV.assign (v := slv Sl.nil) rfl) ?_
  refine GL.nil ?_
  refine GC.seq ?_
  refine GC.region ?_
  refine GL.val trivial rfl (OV.move (v := slv p_b) rfl) ?_
  refine GL.call h trivial rfl ok_code_behind (vs := [slv p_b]) rfl ?_
  rintro _ H2 ⟨r1, rfl, h⟩
  refine GL.val trivial rfl (OV.assign (v := pv r1) rfl) ?_
  refine GL.nil ?_
  refine GC.seq ?_
  refine GC.region ?_
  refine GL.val trivial rfl (OV.move (v := pv r1) rfl) ?_
  refine GL.val trivial rfl (OV.move (v := sv p_s) rfl) ?_
  refine GL.call h trivial rfl ok_code_pen_text (vs := [pv r1, sv p_s]) rfl ?_
  rintro _ H3 ⟨rfl, h⟩
  refine GL.nil ?_
  refine GC.seq ?_
  refine GC.region ?_
  refine GL.val trivial rfl (OV.move (v := pv r1) rfl) ?_
  obtain ⟨p4, hp5, h⟩ := h
  refine GL.val trivial rfl (OV.nilCheck (q := r1) rfl hp5) ?_
  refine GL.val trivial rfl (OV.fieldAddr (p := p4) rfl rfl) ?_
  obtain ⟨x6, hr7, h⟩ := h
  refine GL.val trivial rfl (OV.load (p := (p4.1, p4.2 + 0)) rfl rfl hr7) ?_
  refine GL.val trivial rfl (OV.assign (v := slv x6) rfl) ?_
  refine GL.nil ?_
  exact GC.ret (fun _ _ hf hs => post_tmp1 rfl rfl hf hs ⟨x6, rfl, h⟩)

def sh_code_Flag (C : Ctx) (p_b : Sl) (p_v : Bool) (K : Sl → Heap → Prop) (H : Heap) : Prop :=
  c_code_behind C p_b (fun r1 H2 =>
 jn (α := Unit) (fun x4 H5 =>
 nck r1 fun p14 =>
 ldL H5 (p14.1, p14.2 + 0) fun x16 =>
 K x16 H5)
 (fun J3 => ift p_v
 (nw ([.int .u8 1]) (fun b8 H9 =>
 c_code_pen_put C r1 (Sl.of (some (b8, 0)) 1 1) (fun H10 =>
 J3 () H10) H9) H2)
 (nw ([.int .u8 0]) (fun b11 H12 =>
 c_code_pen_put C r1 (Sl.of (some (b11, 0)) 1 1) (fun H13 =>
 J3 () H13) H12) H2))) H

theorem ad_code_Flag (C : Ctx) (p_b : Sl) (p_v : Bool) (K : Sl → Heap → Prop) (H : Heap) (h : sh_code_Flag C p_b p_v K H) : c_code_Flag C p_b p_v K H := by
  refine Spec.enter Tryd.func19 rfl Tryd.ntmps19 rfl ?_
  refine GC.sub [(0, slv p_b), (1, .bool p_v)] ⟨rfl, rfl, trivial⟩ ?_
  refine GC.seq ?_
  refine GC.region ?_
  refine GL.val trivial rfl (OV.assign (v := slv Sl.nil) rfl) ?_
  refine GL.nil ?_
  refine GC.seq ?_
  refine GC.region ?_
  refine GL.val trivial rfl (OV.move (v := slv p_b) rfl) ?_
  refine GL.call h trivial rfl ok_code_behind (vs := [slv p_b]) rfl ?_
  rintro _ H2 ⟨r1, rfl, h⟩
  refine GL.val trivial rfl (OV.assign (v := pv r1) rfl) ?_
  refine GL.nil ?_
  obtain ⟨J3, h, hR6⟩ := h
  refine GC.join (α := Unit) J3 (fun _ => [(5, pv r1)]) ?_ ?_
  · skip
    refine GC.seq ?_
    refine GC.region ?_
    refine GL.val trivial rfl (OV.move (v := .bool p_v) rfl) ?_
    refine GL.nil ?_
    refine GC.cond (b := p_v) rfl (fun hc7 => ?_) (fun hc7 => ?_)
    · replace h := And.left h hc7
      refine GC.region ?_
      refine GL.val trivial rfl (OV.move (v := pv r1) rfl) ?_
      refine GL.buildSlice (cs := [.int .u8 1]) h trivial rfl (vs := [(0, .int .u8 1)]) rfl ⟨5, fun _ => by kernel_rfl⟩ ?_
      intro b8 H9 h
      refine GL.call h trivial rfl ok_code_pen_put (vs := [pv r1, slv (Sl.of (some (b8, 0)) 1 1)]) rfl ?_
      rintro _ H10 ⟨rfl, h⟩
      exact GL.jump (fun _ _ h => h) () h ⟨rfl, trivial⟩
    · replace h := And.right h hc7
      refine GC.region ?_
      refine GL.val trivial rfl (OV.move (v := pv r1) rfl) ?_
      refine GL.buildSlice (cs := [.int .u8 0]) h trivial rfl (vs := [(0, .int .u8 0)]) rfl ⟨5, fun _ => by kernel_rfl⟩ ?_
      intro b11 H12 h
      refine GL.call h trivial rfl ok_code_pen_put (vs := [pv r1, slv (Sl.of (some (b11, 0)) 1 1)]) rfl ?_
      rintro _ H13 ⟨rfl, h⟩
      exact GL.jump (fun _ _ h => h) () h ⟨rfl, trivial⟩
  · intro x4 H5 h
    replace h := hR6 x4 H5 h
    refine GC.seq ?_
    refine GC.region ?_
    refine GL.val trivial rfl (OV.move (v := pv r1) rfl) ?_
    obtain ⟨p14, hp15, h⟩ := h
    refine GL.val trivial rfl (OV.nilCheck (q := r1) rfl hp15) ?_
    refine GL.val trivial rfl (OV.fieldAddr (p := p14) rfl rfl) ?_
    obtain ⟨x16, hr17, h⟩ := h
    refine GL.val trivial rfl (OV.load (p := (p14.1, p14.2 + 0)) rfl rfl hr17) ?_
    refine GL.val trivial rfl (OV.assign (v := slv x16) rfl) ?_
    refine GL.nil ?_
    exact GC.ret (fun _ _ hf hs => post_tmp1 rfl rfl hf hs ⟨x16, rfl, h⟩)

def sh_code_Value (C : Ctx) (p_b : Sl) (p_v : T_api_Value) (K : Sl → Heap → Prop) (H : Heap) : Prop :=
  nw (T_api_Value.c p_v) (fun b1 H2 =>
 c_code_behind C p_b (fun r3 H4 =>
 jn (α := Unit) (fun x6 H7 =>
 nck r3 fun p17 =>
 ldL H7 (p17.1, p17.2 + 0) fun x19 =>
 K x19 H7)
 (fun J5 => ldT H4 T_api_Value.c (b1, 0) fun x9 =>
 c_value_Check C x9 (fun r11 H12 =>
 ift ((r11 : Int) == 0)
 (ldT H12 T_api_Value.c (b1, 0) fun x14 =>
 c_code_pen_value C r3 x14 (fun H16 =>
 J5 () H16) H12)
 (J5 () H12)) H4)) H2) H

theorem ad_code_Value (C : Ctx) (p_b : Sl) (p_v : T_api_Value) (K : Sl → Heap → Prop) (H : Heap) (h : sh_code_Value C p_b p_v K H) : c_code_Value C p_b p_v K H := by
  refine Spec.enter Tryd.func21 rfl Tryd.ntmps21 rfl ?_
  refine GC.sub [(0, slv p_b), (1, .agg (T_api_Value.c p_v).toArray)] ⟨rfl, rfl, trivial⟩ ?_
  refine GC.seq ?_
  refine GC.region ?_
  refine GL.box (v := .agg (T_api_Value.c p_v).toArray) (cs := T_api_Value.c p_v) h trivial rfl rfl rfl ?_
  intro b1 H2 h
  refine GL.val trivial rfl (OV.assign (v := slv Sl.nil) rfl) ?_
  refine GL.nil ?_
  refine GC.seq ?_
  refine GC.region ?_
  refine GL.val trivial rfl (OV.move (v := slv p_b) rfl) ?_
  refine GL.call h trivial rfl ok_code_behind (vs := [slv p_b]) rfl ?_
  rintro _ H4 ⟨r3, rfl, h⟩
  refine GL.val trivial rfl (OV.assign (v := pv r3) rfl) ?_
  refine GL.nil ?_
  obtain ⟨J5, h, hR8⟩ := h
  refine GC.join (α := Unit) J5 (fun _ => [(5, pv r3)]) ?_ ?_
  · skip
    refine GC.seq ?_
    refine GC.region ?_
    obtain ⟨x9, hr10, h⟩ := h
    refine GL.val trivial rfl (OV.loadT (p := (b1, 0)) (cs := T_api_Value.c x9) rfl rfl rfl hr10) ?_
    refine GL.call h trivial rfl ok_value_Check (vs := [.agg (T_api_Value.c x9).toArray]) rfl ?_
    rintro _ H12 ⟨r11, rfl, h⟩
    refine GL.val trivial rfl (OV.ibin (v := .bool ((r11 : Int) == 0)) rfl rfl rfl) ?_
    refine GL.nil ?_
    refine GC.cond (b := (r11 : Int) == 0) rfl (fun hc13 => ?_) (fun hc13 => ?_)
    · replace h := And.left h hc13
      refine GC.region ?_
      refine GL.val trivial rfl (OV.move (v := pv r3) rfl) ?_
      obtain ⟨x14, hr15, h⟩ := h
      refine GL.val trivial rfl (OV.loadT (p := (b1, 0)) (cs := T_api_Value.c x14) rfl rfl rfl hr15) ?_
      refine GL.call h trivial rfl ok_code_pen_value (vs := [pv r3, .agg (T_api_Value.c x14).toArray]) rfl ?_
      rintro _ H16 ⟨rfl, h⟩
      exact GL.jump (fun _ _ h => h) () h ⟨rfl, trivial⟩
    · replace h := And.right h hc13
      exact GC.jump (fun _ _ h => h) () h ⟨rfl, trivial⟩
  · intro x6 H7 h
    replace h := hR8 x6 H7 h
    refine GC.seq ?_
    refine GC.region ?_
    refine GL.val trivial rfl (OV.move (v := pv r3) rfl) ?_
    obtain ⟨p17, hp18, h⟩ := h
    refine GL.val trivial rfl (OV.nilCheck (q := r3) rfl hp18) ?_
    refine GL.val trivial rfl (OV.fieldAddr (p := p17) rfl rfl) ?_
    obtain ⟨x19, hr20, h⟩ := h
    refine GL.val trivial rfl (OV.load (p := (p17.1, p17.2 + 0)) rfl rfl hr20) ?_
    refine GL.val trivial rfl (OV.assign (v := slv x19) rfl) ?_
    refine GL.nil ?_
    exact GC.ret (fun _ _ hf hs => post_tmp1 rfl rfl hf hs ⟨x19, rfl, h⟩)

def sh_law03_behind (C : Ctx) (p_a : Sl) (p_b : Sl) (K : Sl → Heap → Prop) (H : Heap) : Prop :=
  nw ([]) (fun b1 H2 =>
 apS ([.int .u8 0]) 1 (Sl.of (some (b1, 0)) 0 0) p_a (fun r3 H4 =>
 apS ([.int .u8 0]) 1 r3 p_b (fun r5 H6 =>
 K r5 H6) H4) H2) H

theorem ad_law03_behind (C : Ctx) (p_a : Sl) (p_b : Sl) (K : Sl → Heap → Prop) (H : Heap) (h : sh_law03_behind C p_a p_b K H) : c_law03_behind C p_a p_b K H := by
  refine Spec.enter Tryd.func25 rfl Tryd.ntmps25 rfl ?_
  refine GC.sub [(0, slv p_a), (1, slv p_b)] ⟨rfl, rfl, trivial⟩ ?_
  refine GC.seq ?_
  refine GC.region ?_
  refine GL.val trivial rfl (OV.assign (v := slv Sl.nil) rfl) ?_
  refine GL.nil ?_
  refine GC.seq ?_
  refine GC.region ?_
  refine GL.buildSlice (cs := []) h trivial rfl (vs := []) rfl ⟨5, fun _ => by kernel_rfl⟩ ?_
  intro b1 H2 h
  refine GL.val trivial rfl (OV.move (v := slv p_a) rfl) ?_
  refine GL.appendS (s := (Sl.of (some (b1, 0)) 0 0)) (s2 := p_a) (zc := [.int .u8 0]) (bytes := 1) h trivial rfl rfl rfl ⟨⟨_, _, _, rfl, rfl, rfl, rfl, rfl, rfl⟩⟩ rfl ?_
  intro r3 H4 h
  refine GL.val trivial rfl (OV.move (v := slv p_b) rfl) ?_
  refine GL.appendS (s := r3) (s2 := p_b) (zc := [.int .u8 0]) (bytes := 1) h trivial rfl rfl rfl ⟨⟨_, _, _, rfl, rfl, rfl, rfl, rfl, rfl⟩⟩ rfl ?_
  intro r5 H6 h
  refine GL.val trivial rfl (OV.assign (v := slv r5) rfl) ?_
  refine GL.nil ?_
  exact GC.ret (fun _ _ hf hs => post_tmp1 rfl rfl hf hs ⟨r5, rfl, h⟩)

def sh_code_NewReader (C : Ctx) (p_b : Sl) (K : Option (Nat × Nat) → Heap → Prop) (H : Heap) : Prop :=
  c_slices_Clone_byte_byte C p_b (fun r1 H2 =>
 nw (T_code_Reader.c (⟨r1, 0, false⟩ : T_code_Reader)) (fun b3 H4 =>
 K (some (b3, 0)) H4) H2) H

theorem ad_code_NewReader (C : Ctx) (p_b : Sl) (K : Option (Nat × Nat) → Heap → Prop) (H : Heap) (h : sh_code_NewReader C p_b K H) : c_code_NewReader C p_b K H := by
  refine Spec.enter Tryd.func28 rfl Tryd.ntmps28 rfl ?_
  refine GC.sub [(0, slv p_b)] ⟨rfl, trivial⟩ ?_
  refine GC.seq ?_
  refine GC.region ?_
  refine GL.val trivial rfl (OV.assign (v := pv none) rfl) ?_
  refine GL.nil ?_
  refine GC.seq ?_
  refine GC.region ?_
  refine GL.val trivial rfl (OV.move (v := slv p_b) rfl) ?_
  refine GL.call h trivial rfl ok_slices_Clone_byte_byte (vs := [slv p_b]) rfl ?_
  rintro _ H2 ⟨r1, rfl, h⟩
  refine GL.val trivial rfl (OV.build (vs := [(0, slv r1)]) (v := .agg (T_code_Reader.c (⟨r1, 0, false⟩ : T_code_Reader)).toArray) rfl (fun _ => by kernel_rfl)) ?_
  refine GL.box (v := .agg (T_code_Reader.c (⟨r1, 0, false⟩ : T_code_Reader)).toArray) (cs := T_code_Reader.c (⟨r1, 0, false⟩ : T_code_Reader)) h trivial rfl rfl rfl ?_
  intro b3 H4 h
  refine GL.val trivial rfl (OV.assign (v := pv (some (b3, 0))) rfl) ?_
  refine GL.nil ?_
  exact GC.ret (fun _ _ hf hs => post_tmp1 rfl rfl hf hs ⟨(some (b3, 0)), rfl, h⟩)

def sh_code_Reader_Left (C : Ctx) (p_r : Option (Nat × Nat)) (K : Int → Heap → Prop) (H : Heap) : Prop :=
  ift (Option.isNone p_r)
 (K 0 H)
 (nck p_r fun p2 =>
 ldL H (p2.1, p2.2 + 0) fun x4 =>
 K (Sl.len x4 : Int) H)

theorem ad_code_Reader_Left (C : Ctx) (p_r : Option (Nat × Nat)) (K : Int → Heap → Prop) (H : Heap) (h : sh_code_Reader_Left C p_r K H) : c_code_Reader_Left C p_r K H := by
  refine Spec.enter Tryd.func30 rfl Tryd.ntmps30 rfl ?_
  refine GC.sub [(0, pv p_r)] ⟨rfl, trivial⟩ ?_
  refine GC.seq ?_
  refine GC.region ?_
  refine GL.val trivial rfl (OV.assign (v := .int .i64 0) rfl) ?_
  refine GL.nil ?_
  refine GC.seq ?_
  refine GC.seq ?_
  refine GC.region ?_
  refine GL.val trivial rfl (OV.move (v := pv p_r) rfl) ?_
  refine GL.val trivial rfl (OV.eqlNil (p := p_r) rfl rfl rfl) ?_
  refine GL.nil ?_
  refine GC.cond (b := Option.isNone p_r) rfl (fun hc1 => ?_) (fun hc1 => ?_)
  · replace h := And.left h hc1
    refine GC.seq ?_
    refine GC.region ?_
    refine GL.val trivial rfl (OV.assign (v := .int .i64 0) rfl) ?_
    refine GL.nil ?_
    exact GC.ret (fun _ _ hf hs => post_tmp1 rfl rfl hf hs ⟨0, rfl, h⟩)
  · replace h := And.right h hc1
    refine GC.skip ?_
    refine GC.seq ?_
    refine GC.region ?_
    refine GL.val trivial rfl (OV.move (v := pv p_r) rfl) ?_
    obtain ⟨p2, hp3, h⟩ := h
    refine GL.val trivial rfl (OV.nilCheck (q := p_r) rfl hp3) ?_
    refine GL.val trivial rfl (OV.fieldAddr (p := p2) rfl rfl) ?_
    obtain ⟨x4, hr5, h⟩ := h
    refine GL.val trivial rfl (OV.load (p := (p2.1, p2.2 + 0)) rfl rfl hr5) ?_
    refine GL.val trivial rfl (OV.lenSl (s := x4) rfl rfl) ?_
    refine GL.val trivial rfl (OV.assign (v := .int .i64 (Sl.len x4 : Int)) rfl) ?_
    refine GL.nil ?_
    exact GC.ret (fun _ _ hf hs => post_tmp1 rfl rfl hf hs ⟨(Sl.len x4 : Int), rfl, h⟩)

def sh_code_Reader_Done (C : Ctx) (p_r : Option (Nat × Nat)) (K : Bool → Heap → Prop) (H : Heap) : Prop :=
  c_code_Reader_OK C p_r (fun r1 H2 =>
 jn (α := Bool) (fun b3 H9 =>
 K b3 H9)
 (fun J4 => ift r1
 (c_code_Reader_Left C p_r (fun r7 H8 =>
 J4 ((r7 : Int) == 0) H8) H2)
 (J4 false H2))) H

theorem ad_code_Reader_Done (C : Ctx) (p_r : Option (Nat × Nat)) (K : Bool → Heap → Prop) (H : Heap) (h : sh_code_Reader_Done C p_r K H) : c_code_Reader_Done C p_r K H := by
  refine Spec.enter Tryd.func32 rfl Tryd.ntmps32 rfl ?_
  refine GC.sub [(0, pv p_r)] ⟨rfl, trivial⟩ ?_
  refine GC.seq ?_
  refine GC.region ?_
  refine GL.val trivial rfl (OV.assign (v := .bool false) rfl) ?_
  refine GL.nil ?_
  refine GC.seq ?_
  refine GC.region ?_
  refine GL.val trivial rfl (OV.move (v := pv p_r) rfl) ?_
  refine GL.call h trivial rfl ok_code_Reader_OK (vs := [pv p_r]) rfl ?_
  rintro _ H2 ⟨r1, rfl, h⟩
  refine GL.val trivial rfl (OV.move (v := .bool r1) rfl) ?_
  obtain ⟨J4, h, hR5⟩ := h
  refine GL.cut (α := Bool) 4 J4 (fun b3 => [(9, .bool b3)]) ?_ ?_
  · rcases Bool.eq_false_or_eq_true r1 with hc6 | hc6
    · skip
      replace h := And.left h hc6
      refine GL.val ⟨_, _, rfl, rfl, hc6⟩ rfl (OV.move (v := pv p_r) rfl) ?_
      refine GL.call h ⟨_, _, rfl, rfl, hc6⟩ rfl ok_code_Reader_Left (vs := [pv p_r]) rfl ?_
      rintro _ H8 ⟨r7, rfl, h⟩
      refine GL.val ⟨_, _, rfl, rfl, hc6⟩ rfl (OV.ibin (v := .bool ((r7 : Int) == 0)) rfl rfl rfl) ?_
      refine GL.val trivial rfl (OV.pickT (b := r1) (v := .bool ((r7 : Int) == 0)) rfl hc6 rfl) ?_
      exact GL.jump (fun _ _ h => h) ((r7 : Int) == 0) h ⟨rfl, trivial⟩
    · skip
      replace h := And.right h hc6
      refine GL.skip ⟨_, rfl, .inl ⟨_, rfl, hc6⟩⟩ rfl ?_
      refine GL.skip ⟨_, rfl, .inl ⟨_, rfl, hc6⟩⟩ rfl ?_
      refine GL.skip ⟨_, rfl, .inl ⟨_, rfl, hc6⟩⟩ rfl ?_
      refine GL.val trivial rfl (OV.pickF (b := r1) (v := .bool false) rfl hc6 rfl) ?_
      exact GL.jump (fun _ _ h => h) false h ⟨rfl, trivial⟩
  intro b3 H9 h
  replace h := hR5 b3 H9 h
  refine GL.val trivial rfl (OV.assign (v := .bool b3) rfl) ?_
  refine GL.nil ?_
  exact GC.ret (fun _ _ hf hs => post_tmp1 rfl rfl hf hs ⟨b3, rfl, h⟩)

def sh_code_Reader_Num (C : Ctx) (p_r : Option (Nat × Nat)) (K : Int → Heap → Prop) (H : Heap) : Prop :=
  ift (Option.isNone p_r)
 (K 0 H)
 (c_code_Reader_next C p_r (fun r2 H3 =>
 jn (α := Int) (fun x5 H6 =>
 c_code_Reader_flip C p_r (decide ((r2 : Int) < 128)) (fun H9 =>
 c_code_Reader_number C p_r (w .i64 ((w .i64 x5) - 128)) 8 (fun r10 H11 =>
 c_code_Reader_flip C p_r (decide ((r2 : Int) < 128)) (fun H12 =>
 c_code_Reader_ask C p_r (decide ((r10 : Int) ≤ 9223372036854775807)) (fun r13 H14 =>
 ift (!r13)
 (K 0 H14)
 (ift (decide ((r2 : Int) < 128))
 (K (bXor .i64 (-1) (w .i64 r10)) H14)
 (K (w .i64 r10) H14))) H12) H11) H9) H6)
 (fun J4 => ift (decide ((r2 : Int) < 128))
 (J4 (bXor .u8 (255) r2) H3)
 (J4 r2 H3))) H)

theorem ad_code_Reader_Num (C : Ctx) (p_r : Option (Nat × Nat)) (K : Int → Heap → Prop) (H : Heap) (h : sh_code_Reader_Num C p_r K H) : c_code_Reader_Num C p_r K H := by
  refine Spec.enter Tryd.func33 rfl Tryd.ntmps33 rfl ?_
  refine GC.sub [(0, pv p_r)] ⟨rfl, trivial⟩ ?_
  refine GC.seq ?_
  refine GC.region ?_
  refine GL.val trivial rfl (OV.assign (v := .int .i64 0) rfl) ?_
  refine GL.nil ?_
  refine GC.seq ?_
  refine GC.seq ?_
  refine GC.region ?_
  refine GL.val trivial rfl (OV.move (v := pv p_r) rfl) ?_
  refine GL.val trivial rfl (OV.eqlNil (p := p_r) rfl rfl rfl) ?_
  refine GL.nil ?_
  refine GC.cond (b := Option.isNone p_r) rfl (fun hc1 => ?_) (fun hc1 => ?_)
  · replace h := And.left h hc1
    refine GC.seq ?_
    refine GC.region ?_
    refine GL.val trivial rfl (OV.assign (v := .int .i64 0) rfl) ?_
    refine GL.nil ?_
    exact GC.ret (fun _ _ hf hs => post_tmp1 rfl rfl hf hs ⟨0, rfl, h⟩)
  · replace h := And.right h hc1
    refine GC.skip ?_
    refine GC.seq ?_
    refine GC.region ?_
    refine GL.val trivial rfl (OV.move (v := pv p_r) rfl) ?_
    refine GL.call h trivial rfl ok_code_Reader_next (vs := [pv p_r]) rfl ?_
    rintro _ H3 ⟨r2, rfl, h⟩
    refine GL.val trivial rfl (OV.assign (v := .int .u8 r2) rfl) ?_
    refine GL.nil ?_
    refine GC.seq ?_
    refine GC.region ?_
    refine GL.val trivial rfl (OV.move (v := .int .u8 r2) rfl) ?_
    refine GL.val trivial rfl (OV.ibin (v := .bool (decide ((r2 : Int) < 128))) rfl rfl rfl) ?_
    refine GL.val trivial rfl (OV.assign (v := .bool (decide ((r2 : Int) < 128))) rfl) ?_
    refine GL.nil ?_
    obtain ⟨J4, h, hR7⟩ := h
    refine GC.join (α := Int) J4 (fun x5 => [(3, .int .u8 x5), (0, pv p_r), (4, .bool (decide ((r2 : Int) < 128)))]) ?_ ?_
    · skip
      refine GC.seq ?_
      refine GC.region ?_
      refine GL.val trivial rfl (OV.move (v := .bool (decide ((r2 : Int) < 128))) rfl) ?_
      refine GL.nil ?_
      refine GC.cond (b := decide ((r2 : Int) < 128)) rfl (fun hc8 => ?_) (fun hc8 => ?_)
      · replace h := And.left h hc8
        refine GC.region ?_
        refine GL.val trivial rfl (OV.move (v := .int .u8 r2) rfl) ?_
        refine GL.val trivial rfl (OV.iun (v := .int .u8 (bXor .u8 (255) r2)) rfl rfl) ?_
        refine GL.val trivial rfl (OV.assign (v := .int .u8 (bXor .u8 (255) r2)) rfl) ?_
        exact GL.jump (fun _ _ h => h) (bXor .u8 (255) r2) h ⟨rfl, rfl, rfl, trivial⟩
      · replace h := And.right h hc8
        exact GC.jump (fun _ _ h => h) r2 h ⟨rfl, rfl, rfl, trivial⟩
    · intro x5 H6 h
      replace h := hR7 x5 H6 h
      refine GC.seq ?_
      refine GC.region ?_
      refine GL.val trivial rfl (OV.move (v := pv p_r) rfl) ?_
      refine GL.val trivial rfl (OV.move (v := .bool (decide ((r2 : Int) < 128))) rfl) ?_
      refine GL.call h trivial rfl ok_code_Reader_flip (vs := [pv p_r, .bool (decide ((r2 : Int) < 128))]) rfl ?_
      rintro _ H9 ⟨rfl, h⟩
      refine GL.nil ?_
      refine GC.seq ?_
      refine GC.region ?_
      refine GL.val trivial rfl (OV.move (v := pv p_r) rfl) ?_
      refine GL.val trivial rfl (OV.move (v := .int .u8 x5) rfl) ?_
      refine GL.val trivial rfl (OV.convInt rfl rfl rfl) ?_
      refine GL.val trivial rfl (OV.ibin (v := .int .i64 (w .i64 ((w .i64 x5) - 128))) rfl rfl rfl) ?_
      refine GL.call h trivial rfl ok_code_Reader_number (vs := [pv p_r, .int .i64 (w .i64 ((w .i64 x5) - 128)), .int .i64 8]) rfl ?_
      rintro _ H11 ⟨r10, rfl, h⟩
      refine GL.val trivial rfl (OV.assign (v := .int .u64 r10) rfl) ?_
      refine GL.nil ?_
      refine GC.seq ?_
      refine GC.region ?_
      refine GL.val trivial rfl (OV.move (v := pv p_r) rfl) ?_
      refine GL.val trivial rfl (OV.move (v := .bool (decide ((r2 : Int) < 128))) rfl) ?_
      refine GL.call h trivial rfl ok_code_Reader_flip (vs := [pv p_r, .bool (decide ((r2 : Int) < 128))]) rfl ?_
      rintro _ H12 ⟨rfl, h⟩
      refine GL.nil ?_
      refine GC.seq ?_
      refine GC.block ?_
      refine GC.seq ?_
      refine GC.region ?_
      refine GL.val trivial rfl (OV.move (v := pv p_r) rfl) ?_
      refine GL.val trivial rfl (OV.move (v := .int .u64 r10) rfl) ?_
      refine GL.val trivial rfl (OV.ibin (v := .bool (decide ((r10 : Int) ≤ 9223372036854775807))) rfl rfl rfl) ?_
      refine GL.call h trivial rfl ok_code_Reader_ask (vs := [pv p_r, .bool (decide ((r10 : Int) ≤ 9223372036854775807))]) rfl ?_
      rintro _ H14 ⟨r13, rfl, h⟩
      refine GL.val trivial rfl (OV.not rfl) ?_
      refine GL.val trivial rfl (OV.assign (v := .bool (!r13)) rfl) ?_
      refine GL.nil ?_
      refine GC.cond (b := !r13) rfl (fun hc15 => ?_) (fun hc15 => ?_)
      · replace h := And.left h hc15
        refine GC.seq ?_
        refine GC.region ?_
        refine GL.val trivial rfl (OV.assign (v := .int .i64 0) rfl) ?_
        refine GL.nil ?_
        exact GC.ret (fun _ _ hf hs => post_tmp1 rfl rfl hf hs ⟨0, rfl, h⟩)
      · replace h := And.right h hc15
        refine GC.seq ?_
        refine GC.region ?_
        refine GL.val trivial rfl (OV.move (v := .bool (decide ((r2 : Int) < 128))) rfl) ?_
        refine GL.val trivial rfl (OV.assign (v := .bool (decide ((r2 : Int) < 128))) rfl) ?_
        refine GL.nil ?_
        refine GC.cond (b := decide ((r2 : Int) < 128)) rfl (fun hc16 => ?_) (fun hc16 => ?_)
        · replace h := And.left h hc16
          refine GC.seq ?_
          refine GC.region ?_
          refine GL.val trivial rfl (OV.move (v := .int .u64 r10) rfl) ?_
          refine GL.val trivial rfl (OV.convInt rfl rfl rfl) ?_
          refine GL.val trivial rfl (OV.iun (v := .int .i64 (bXor .i64 (-1) (w .i64 r10))) rfl rfl) ?_
          refine GL.val trivial rfl (OV.assign (v := .int .i64 (bXor .i64 (-1) (w .i64 r10))) rfl) ?_
          refine GL.nil ?_
          exact GC.ret (fun _ _ hf hs => post_tmp1 rfl rfl hf hs ⟨(bXor .i64 (-1) (w .i64 r10)), rfl, h⟩)
        · replace h := And.right h hc16
          refine GC.skip_to (fun _ _ h => h) ?_
          refine GC.seq ?_
          refine GC.region ?_
          refine GL.val trivial rfl (OV.move (v := .int .u64 r10) rfl) ?_
          refine GL.val trivial rfl (OV.convInt rfl rfl rfl) ?_
          refine GL.val trivial rfl (OV.assign (v := .int .i64 (w .i64 r10)) rfl) ?_
          refine GL.nil ?_
          exact GC.ret (fun _ _ hf hs => post_tmp1 rfl rfl hf hs ⟨(w .i64 r10), rfl, h⟩)

def sh_code_Reader_Str (C : Ctx) (p_r : Option (Nat × Nat)) (p_most : Int) (K : Str → Heap → Prop) (H : Heap) : Prop :=
  jn (α := Unit) (fun x2 H3 =>
 K [] H3)
 (fun J1 => lp (α := Sl) Sl.nil H (fun x5 J6 H7 =>
 jn (α := Bool) (fun b8 H14 =>
 ift b8
 (c_code_Reader_next C p_r (fun r16 H17 =>
 jn (α := Unit) (fun x19 H20 =>
 apd ([.int .u8 0]) 1 x5 ([.int .u8 r16]) 1 (fun r33 H34 =>
 J6 r33 H34) H20)
 (fun J18 => ift ((r16 : Int) == 0)
 (c_code_Reader_next C p_r (fun r23 H24 =>
 c_code_Reader_ask C p_r (((r23 : Int) == 0) || ((r23 : Int) == 255)) (fun r26 H27 =>
 ift (!r26)
 (J1 () H27)
 (ift ((r23 : Int) == 0)
 (b2s x5 (fun t30 =>
 K t30 H27) H27)
 (J18 () H27))) H24) H17)
 (J18 () H17))) H14)
 (J1 () H14))
 (fun J9 => ift (!(Option.isNone p_r))
 (c_code_Reader_ask C p_r (decide (((Sl.len x5 : Int) : Int) ≤ p_most)) (fun r12 H13 =>
 J9 r12 H13) H7)
 (J9 false H7))))

theorem ad_code_Reader_Str (C : Ctx) (p_r : Option (Nat × Nat)) (p_most : Int) (K : Str → Heap → Prop) (H : Heap) (h : sh_code_Reader_Str C p_r p_most K H) : c_code_Reader_Str C p_r p_most K H := by
  refine Spec.enter Tryd.func34 rfl Tryd.ntmps34 rfl ?_
  refine GC.sub [(0, pv p_r), (1, .int .i64 p_most)] ⟨rfl, rfl, trivial⟩ ?_
  refine GC.seq ?_
  refine GC.region ?_
  refine GL.val trivial rfl (OV.assign (v := sv []) rfl) ?_
  refine GL.nil ?_
  refine GC.seq ?_
  refine GC.region ?_
  refine GL.val trivial rfl (OV.assign (v := slv Sl.nil) rfl) ?_
  refine GL.nil ?_
  obtain ⟨J1, h, hR4⟩ := h
  refine GC.join (α := Unit) J1 (fun _ => []) ?_ ?_
  · skip
    refine GC.block ?_
    refine GC.loop (α := Sl) h (fun x5 => [(5, slv x5), (0, pv p_r), (1, .int .i64 p_most)]) ⟨rfl, rfl, rfl, trivial⟩ ?_
    intro x5 H7 J6 h
    refine GC.seq ?_
    refine GC.seq ?_
    refine GC.region ?_
    refine GL.val trivial rfl (OV.move (v := pv p_r) rfl) ?_
    refine GL.val trivial rfl (OV.neqNil (p := p_r) rfl rfl rfl) ?_
    refine GL.val trivial rfl (OV.move (v := .bool (!(Option.isNone p_r))) rfl) ?_
    obtain ⟨J9, h, hR10⟩ := h
    refine GL.cut (α := Bool) 7 J9 (fun b8 => [(17, .bool b8), (0, pv p_r), (1, .int .i64 p_most), (5, slv x5)]) ?_ ?_
    · rcases Bool.eq_false_or_eq_true (!(Option.isNone p_r)) with hc11 | hc11
      · skip
        replace h := And.left h hc11
        refine GL.val ⟨_, _, rfl, rfl, hc11⟩ rfl (OV.move (v := pv p_r) rfl) ?_
        refine GL.val ⟨_, _, rfl, rfl, hc11⟩ rfl (OV.move (v := slv x5) rfl) ?_
        refine GL.val ⟨_, _, rfl, rfl, hc11⟩ rfl (OV.lenSl (s := x5) rfl rfl) ?_
        refine GL.val ⟨_, _, rfl, rfl, hc11⟩ rfl (OV.move (v := .int .i64 p_most) rfl) ?_
        refine GL.val ⟨_, _, rfl, rfl, hc11⟩ rfl (OV.ibin (v := .bool (decide (((Sl.len x5 : Int) : Int) ≤ p_most))) rfl rfl rfl) ?_
        refine GL.call h ⟨_, _, rfl, rfl, hc11⟩ rfl ok_code_Reader_ask (vs := [pv p_r, .bool (decide (((Sl.len x5 : Int) : Int) ≤ p_most))]) rfl ?_
        rintro _ H13 ⟨r12, rfl, h⟩
        refine GL.val trivial rfl (OV.pickT (b := !(Option.isNone p_r)) (v := .bool r12) rfl hc11 rfl) ?_
        exact GL.jump (fun _ _ h => h) r12 h ⟨rfl, rfl, rfl, rfl, trivial⟩
      · skip
        replace h := And.right h hc11
        refine GL.skip ⟨_, rfl, .inl ⟨_, rfl, hc11⟩⟩ rfl ?_
        refine GL.skip ⟨_, rfl, .inl ⟨_, rfl, hc11⟩⟩ rfl ?_
        refine GL.skip ⟨_, rfl, .inl ⟨_, rfl, hc11⟩⟩ rfl ?_
        refine GL.skip ⟨_, rfl, .inl ⟨_, rfl, hc11⟩⟩ rfl ?_
        refine GL.skip ⟨_, rfl, .inl ⟨_, rfl, hc11⟩⟩ rfl ?_
        refine GL.skip ⟨_, rfl, .inl ⟨_, rfl, hc11⟩⟩ rfl ?_
        refine GL.val trivial rfl (OV.pickF (b := !(Option.isNone p_r)) (v := .bool false) rfl hc11 rfl) ?_
        exact GL.jump (fun _ _ h => h) false h ⟨rfl, rfl, rfl, rfl, trivial⟩
    intro b8 H14 h
    replace h := hR10 b8 H14 h
    refine GL.nil ?_
    refine GC.cond (b := b8) rfl (fun hc15 => ?_) (fun hc15 => ?_)
    · replace h := And.left h hc15
      refine GC.skip ?_
      refine GC.block ?_
      refine GC.seq ?_
      refine GC.region ?_
      refine GL.val trivial rfl (OV.move (v := pv p_r) rfl) ?_
      refine GL.call h trivial rfl ok_code_Reader_next (vs := [pv p_r]) rfl ?_
      rintro _ H17 ⟨r16, rfl, h⟩
      refine GL.val trivial rfl (OV.assign (v := .int .u8 r16) rfl) ?_
      refine GL.nil ?_
      obtain ⟨J18, h, hR21⟩ := h
      refine GC.join (α := Unit) J18 (fun _ => [(0, pv p_r), (1, .int .i64 p_most), (5, slv x5), (6, .int .u8 r16)]) ?_ ?_
      · skip
        refine GC.seq ?_
        refine GC.region ?_
        refine GL.val trivial rfl (OV.move (v := .int .u8 r16) rfl) ?_
        refine GL.val trivial rfl (OV.ibin (v := .bool ((r16 : Int) == 0)) rfl rfl rfl) ?_
        refine GL.nil ?_
        refine GC.cond (b := (r16 : Int) == 0) rfl (fun hc22 => ?_) (fun hc22 => ?_)
        · replace h := And.left h hc22
          refine GC.seq ?_
          refine GC.region ?_
          refine GL.val trivial rfl (OV.move (v := pv p_r) rfl) ?_
          refine GL.call h trivial rfl ok_code_Reader_next (vs := [pv p_r]) rfl ?_
          rintro _ H24 ⟨r23, rfl, h⟩
          refine GL.val trivial rfl (OV.assign (v := .int .u8 r23) rfl) ?_
          refine GL.nil ?_
          refine GC.seq ?_
          refine GC.seq ?_
          refine GC.region ?_
          refine GL.val trivial rfl (OV.move (v := pv p_r) rfl) ?_
          refine GL.val trivial rfl (OV.move (v := .int .u8 r23) rfl) ?_
          refine GL.val trivial rfl (OV.ibin (v := .bool ((r23 : Int) == 0)) rfl rfl rfl) ?_
          refine GL.val trivial rfl (OV.move (v := .bool ((r23 : Int) == 0)) rfl) ?_
          refine GL.cut0 3 [(30, .bool (((r23 : Int) == 0) || ((r23 : Int) == 255))), (0, pv p_r), (1, .int .i64 p_most), (5, slv x5), (6, .int .u8 r16), (7, .int .u8 r23), (24, pv p_r)] ?_ ?_
          · rcases Bool.eq_false_or_eq_true ((r23 : Int) == 0) with hc25 | hc25
            · skip
              refine GL.skip ⟨_, rfl, .inl ⟨_, rfl, hc25⟩⟩ rfl ?_
              refine GL.skip ⟨_, rfl, .inl ⟨_, rfl, hc25⟩⟩ rfl ?_
              refine GL.val trivial rfl (OV.pickT (b := (r23 : Int) == 0) (v := .bool true) rfl hc25 rfl) ?_
              exact GL.jump0 (fun _ _ h => h) () rfl ⟨(by rw [hc25]; rfl), rfl, rfl, rfl, rfl, rfl, rfl, trivial⟩
            · skip
              refine GL.val ⟨_, _, rfl, rfl, hc25⟩ rfl (OV.move (v := .int .u8 r23) rfl) ?_
              refine GL.val ⟨_, _, rfl, rfl, hc25⟩ rfl (OV.ibin (v := .bool ((r23 : Int) == 255)) rfl rfl rfl) ?_
              refine GL.val trivial rfl (OV.pickF (b := (r23 : Int) == 0) (v := .bool ((r23 : Int) == 255)) rfl hc25 rfl) ?_
              exact GL.jump0 (fun _ _ h => h) () rfl ⟨(by rw [hc25]; rfl), rfl, rfl, rfl, rfl, rfl, rfl, trivial⟩
          refine GL.call h trivial rfl ok_code_Reader_ask (vs := [pv p_r, .bool (((r23 : Int) == 0) || ((r23 : Int) == 255))]) rfl ?_
          rintro _ H27 ⟨r26, rfl, h⟩
          refine GL.val trivial rfl (OV.not rfl) ?_
          refine GL.nil ?_
          refine GC.cond (b := !r26) rfl (fun hc28 => ?_) (fun hc28 => ?_)
          · replace h := And.left h hc28
            exact GC.exit_jump (fun _ _ h => h) () h trivial
          · replace h := And.right h hc28
            refine GC.skip ?_
            refine GC.seq ?_
            refine GC.region ?_
            refine GL.val trivial rfl (OV.move (v := .int .u8 r23) rfl) ?_
            refine GL.val trivial rfl (OV.ibin (v := .bool ((r23 : Int) == 0)) rfl rfl rfl) ?_
            refine GL.nil ?_
            refine GC.cond (b := (r23 : Int) == 0) rfl (fun hc29 => ?_) (fun hc29 => ?_)
            · replace h := And.left h hc29
              refine GC.seq ?_
              refine GC.region ?_
              refine GL.val trivial rfl (OV.move (v := slv x5) rfl) ?_
              obtain ⟨t30, h31, h32, h⟩ := h
              refine GL.val trivial rfl (OV.b2s (b := x5) (s := t30) h31 h32 rfl rfl rfl rfl) ?_
              refine GL.val trivial rfl (OV.assign (v := sv t30) rfl) ?_
              refine GL.nil ?_
              exact GC.ret (fun _ _ hf hs => post_tmp1 rfl rfl hf hs ⟨t30, rfl, h⟩)
            · replace h := And.right h hc29
              exact GC.jump (fun _ _ h => h) () h ⟨rfl, rfl, rfl, rfl, trivial⟩
        · replace h := And.right h hc22
          exact GC.jump (fun _ _ h => h) () h ⟨rfl, rfl, rfl, rfl, trivial⟩
      · intro x19 H20 h
        replace h := hR21 x19 H20 h
        refine GC.region ?_
        refine GL.val trivial rfl (OV.move (v := slv x5) rfl) ?_
        refine GL.val trivial rfl (OV.move (v := .int .u8 r16) rfl) ?_
        refine GL.appendLit (s := x5) (ys := [.int .u8 r16]) (zc := [.int .u8 0]) (bytes := 1) h trivial rfl (fun _ => trivial) rfl (fun _ => rfl) (fun _ => rfl) (vs := [(0, .int .u8 r16)]) rfl ⟨5, fun _ => by kernel_rfl⟩ ⟨⟨_, _, _, rfl, rfl, rfl, rfl, rfl, rfl⟩⟩ rfl rfl ?_
        intro _ r33 H34 h
        refine GL.val trivial rfl (OV.assign (v := slv r33) rfl) ?_
        exact GL.jump (fun _ _ h => h) r33 h ⟨rfl, rfl, rfl, trivial⟩
    · replace h := And.right h hc15
      exact GC.exit_jump (fun _ _ h => h) () h trivial
  · intro x2 H3 h
    replace h := hR4 x2 H3 h
    refine GC.seq ?_
    refine GC.region ?_
    refine GL.val trivial rfl (OV.assign (v := sv []) rfl) ?_
    refine GL.nil ?_
    exact GC.ret (fun _ _ hf hs => post_tmp1 rfl rfl hf hs ⟨[], rfl, h⟩)

def sh_ref02_Same (C : Ctx) (p_a : T_api_Value) (p_b : T_api_Value) (K : Bool → Heap → Prop) (H : Heap) : Prop :=
  nw (T_api_Value.c p_a) (fun b1 H2 =>
 nw (T_api_Value.c p_b) (fun b3 H4 =>
 ldI H4 .u8 ((b1, 0).1, (b1, 0).2 + 0) fun x5 =>
 ldI H4 .u8 ((b3, 0).1, (b3, 0).2 + 0) fun x7 =>
 jn (α := Bool) (fun b9 H17 =>
 jn (α := Bool) (fun b18 H26 =>
 jn (α := Bool) (fun b27 H37 =>
 K b27 H37)
 (fun J28 => ift b18
 (ldL H26 ((b1, 0).1, (b1, 0).2 + 3) fun x31 =>
 ldL H26 ((b3, 0).1, (b3, 0).2 + 3) fun x33 =>
 c_ref02_SameRow C x31 x33 (fun r35 H36 =>
 J28 r35 H36) H26)
 (J28 false H26)))
 (fun J19 => ift b9
 (ldS H17 ((b1, 0).1, (b1, 0).2 + 2) fun x22 =>
 ldS H17 ((b3, 0).1, (b3, 0).2 + 2) fun x24 =>
 J19 (x22 == x24) H17)
 (J19 false H17)))
 (fun J10 => ift ((x5 : Int) == x7)
 (ldI H4 .i64 ((b1, 0).1, (b1, 0).2 + 1) fun x13 =>
 ldI H4 .i64 ((b3, 0).1, (b3, 0).2 + 1) fun x15 =>
 J10 ((x13 : Int) == x15) H4)
 (J10 false H4))) H2) H

theorem ad_ref02_Same (C : Ctx) (p_a : T_api_Value) (p_b : T_api_Value) (K : Bool → Heap → Prop) (H : Heap) (h : sh_ref02_Same C p_a p_b K H) : c_ref02_Same C p_a p_b K H := by
  refine Spec.enter Tryd.func37 rfl Tryd.ntmps37 rfl ?_
  refine GC.sub [(0, .agg (T_api_Value.c p_a).toArray), (1, .agg (T_api_Value.c p_b).toArray)] ⟨rfl, rfl, trivial⟩ ?_
  refine GC.seq ?_
  refine GC.region ?_
  refine GL.box (v := .agg (T_api_Value.c p_a).toArray) (cs := T_api_Value.c p_a) h trivial rfl rfl rfl ?_
  intro b1 H2 h
  refine GL.box (v := .agg (T_api_Value.c p_b).toArray) (cs := T_api_Value.c p_b) h trivial rfl rfl rfl ?_
  intro b3 H4 h
  refine GL.val trivial rfl (OV.assign (v := .bool false) rfl) ?_
  refine GL.nil ?_
  refine GC.seq ?_
  refine GC.region ?_
  refine GL.val trivial rfl (OV.fieldAddr (p := (b1, 0)) rfl rfl) ?_
  obtain ⟨x5, hr6, h⟩ := h
  refine GL.val trivial rfl (OV.load (p := ((b1, 0).1, (b1, 0).2 + 0)) rfl rfl hr6) ?_
  refine GL.val trivial rfl (OV.fieldAddr (p := (b3, 0)) rfl rfl) ?_
  obtain ⟨x7, hr8, h⟩ := h
  refine GL.val trivial rfl (OV.load (p := ((b3, 0).1, (b3, 0).2 + 0)) rfl rfl hr8) ?_
  refine GL.val trivial rfl (OV.ibin (v := .bool ((x5 : Int) == x7)) rfl rfl rfl) ?_
  refine GL.val trivial rfl (OV.move (v := .bool ((x5 : Int) == x7)) rfl) ?_
  obtain ⟨J10, h, hR11⟩ := h
  refine GL.cut (α := Bool) 6 J10 (fun b9 => [(16, .bool b9), (2, pv (some (b1, 0))), (3, pv (some (b3, 0)))]) ?_ ?_
  · rcases Bool.eq_false_or_eq_true ((x5 : Int) == x7) with hc12 | hc12
    · skip
      replace h := And.left h hc12
      refine GL.val ⟨_, _, rfl, rfl, hc12⟩ rfl (OV.fieldAddr (p := (b1, 0)) rfl rfl) ?_
      obtain ⟨x13, hr14, h⟩ := h
      refine GL.val ⟨_, _, rfl, rfl, hc12⟩ rfl (OV.load (p := ((b1, 0).1, (b1, 0).2 + 1)) rfl rfl hr14) ?_
      refine GL.val ⟨_, _, rfl, rfl, hc12⟩ rfl (OV.fieldAddr (p := (b3, 0)) rfl rfl) ?_
      obtain ⟨x15, hr16, h⟩ := h
      refine GL.val ⟨_, _, rfl, rfl, hc12⟩ rfl (OV.load (p := ((b3, 0).1, (b3, 0).2 + 1)) rfl rfl hr16) ?_
      refine GL.val ⟨_, _, rfl, rfl, hc12⟩ rfl (OV.ibin (v := .bool ((x13 : Int) == x15)) rfl rfl rfl) ?_
      refine GL.val trivial rfl (OV.pickT (b := (x5 : Int) == x7) (v := .bool ((x13 : Int) == x15)) rfl hc12 rfl) ?_
      exact GL.jump (fun _ _ h => h) ((x13 : Int) == x15) h ⟨rfl, rfl, rfl, trivial⟩
    · skip
      replace h := And.right h hc12
      refine GL.skip ⟨_, rfl, .inl ⟨_, rfl, hc12⟩⟩ rfl ?_
      refine GL.skip ⟨_, rfl, .inl ⟨_, rfl, hc12⟩⟩ rfl ?_
      refine GL.skip ⟨_, rfl, .inl ⟨_, rfl, hc12⟩⟩ rfl ?_
      refine GL.skip ⟨_, rfl, .inl ⟨_, rfl, hc12⟩⟩ rfl ?_
      refine GL.skip ⟨_, rfl, .inl ⟨_, rfl, hc12⟩⟩ rfl ?_
      refine GL.val trivial rfl (OV.pickF (b := (x5 : Int) == x7) (v := .bool false) rfl hc12 rfl) ?_
      exact GL.jump (fun _ _ h => h) false h ⟨rfl, rfl, rfl, trivial⟩
  intro b9 H17 h
  replace h := hR11 b9 H17 h
  refine GL.val trivial rfl (OV.move (v := .bool b9) rfl) ?_
  obtain ⟨J19, h, hR20⟩ := h
  refine GL.cut (α := Bool) 6 J19 (fun b18 => [(23, .bool b18), (2, pv (some (b1, 0))), (3, pv (some (b3, 0)))]) ?_ ?_
  · rcases Bool.eq_false_or_eq_true b9 with hc21 | hc21
    · skip
      replace h := And.left h hc21
      refine GL.val ⟨_, _, rfl, rfl, hc21⟩ rfl (OV.fieldAddr (p := (b1, 0)) rfl rfl) ?_
      obtain ⟨x22, hr23, h⟩ := h
      refine GL.val ⟨_, _, rfl, rfl, hc21⟩ rfl (OV.load (p := ((b1, 0).1, (b1, 0).2 + 2)) rfl rfl hr23) ?_
      refine GL.val ⟨_, _, rfl, rfl, hc21⟩ rfl (OV.fieldAddr (p := (b3, 0)) rfl rfl) ?_
      obtain ⟨x24, hr25, h⟩ := h
      refine GL.val ⟨_, _, rfl, rfl, hc21⟩ rfl (OV.load (p := ((b3, 0).1, (b3, 0).2 + 2)) rfl rfl hr25) ?_
      refine GL.val ⟨_, _, rfl, rfl, hc21⟩ rfl (OV.sbin (a := x22) (b := x24) (v := .bool (x22 == x24)) rfl rfl rfl) ?_
      refine GL.val trivial rfl (OV.pickT (b := b9) (v := .bool (x22 == x24)) rfl hc21 rfl) ?_
      exact GL.jump (fun _ _ h => h) (x22 == x24) h ⟨rfl, rfl, rfl, trivial⟩
    · skip
      replace h := And.right h hc21
      refine GL.skip ⟨_, rfl, .inl ⟨_, rfl, hc21⟩⟩ rfl ?_
      refine GL.skip ⟨_, rfl, .inl ⟨_, rfl, hc21⟩⟩ rfl ?_
      refine GL.skip ⟨_, rfl, .inl ⟨_, rfl, hc21⟩⟩ rfl ?_
      refine GL.skip ⟨_, rfl, .inl ⟨_, rfl, hc21⟩⟩ rfl ?_
      refine GL.skip ⟨_, rfl, .inl ⟨_, rfl, hc21⟩⟩ rfl ?_
      refine GL.val trivial rfl (OV.pickF (b := b9) (v := .bool false) rfl hc21 rfl) ?_
      exact GL.jump (fun _ _ h => h) false h ⟨rfl, rfl, rfl, trivial⟩
  intro b18 H26 h
  replace h := hR20 b18 H26 h
  refine GL.val trivial rfl (OV.move (v := .bool b18) rfl) ?_
  obtain ⟨J28, h, hR29⟩ := h
  refine GL.cut (α := Bool) 6 J28 (fun b27 => [(30, .bool b27)]) ?_ ?_
  · rcases Bool.eq_false_or_eq_true b18 with hc30 | hc30
    · skip
      replace h := And.left h hc30
      refine GL.val ⟨_, _, rfl, rfl, hc30⟩ rfl (OV.fieldAddr (p := (b1, 0)) rfl rfl) ?_
      obtain ⟨x31, hr32, h⟩ := h
      refine GL.val ⟨_, _, rfl, rfl, hc30⟩ rfl (OV.load (p := ((b1, 0).1, (b1, 0).2 + 3)) rfl rfl hr32) ?_
      refine GL.val ⟨_, _, rfl, rfl, hc30⟩ rfl (OV.fieldAddr (p := (b3, 0)) rfl rfl) ?_
      obtain ⟨x33, hr34, h⟩ := h
      refine GL.val ⟨_, _, rfl, rfl, hc30⟩ rfl (OV.load (p := ((b3, 0).1, (b3, 0).2 + 3)) rfl rfl hr34) ?_
      refine GL.call h ⟨_, _, rfl, rfl, hc30⟩ rfl ok_ref02_SameRow (vs := [slv x31, slv x33]) rfl ?_
      rintro _ H36 ⟨r35, rfl, h⟩
      refine GL.val trivial rfl (OV.pickT (b := b18) (v := .bool r35) rfl hc30 rfl) ?_
      exact GL.jump (fun _ _ h => h) r35 h ⟨rfl, trivial⟩
    · skip
      replace h := And.right h hc30
      refine GL.skip ⟨_, rfl, .inl ⟨_, rfl, hc30⟩⟩ rfl ?_
      refine GL.skip ⟨_, rfl, .inl ⟨_, rfl, hc30⟩⟩ rfl ?_
      refine GL.skip ⟨_, rfl, .inl ⟨_, rfl, hc30⟩⟩ rfl ?_
      refine GL.skip ⟨_, rfl, .inl ⟨_, rfl, hc30⟩⟩ rfl ?_
      refine GL.skip ⟨_, rfl, .inl ⟨_, rfl, hc30⟩⟩ rfl ?_
      refine GL.val trivial rfl (OV.pickF (b := b18) (v := .bool false) rfl hc30 rfl) ?_
      exact GL.jump (fun _ _ h => h) false h ⟨rfl, trivial⟩
  intro b27 H37 h
  replace h := hR29 b27 H37 h
  refine GL.val trivial rfl (OV.assign (v := .bool b27) rfl) ?_
  refine GL.nil ?_
  exact GC.ret (fun _ _ hf hs => post_tmp1 rfl rfl hf hs ⟨b27, rfl, h⟩)

def sh_code_Reader_Value (C : Ctx) (p_r : Option (Nat × Nat)) (K : T_api_Value → Heap → Prop) (H : Heap) : Prop :=
  nw (T_api_Value.c T_api_Value.zero) (fun b1 H2 =>
 ift (Option.isNone p_r)
 (stT (b1, 0) (T_api_Value.c (⟨0, 0, [], Sl.nil⟩ : T_api_Value)) (fun H4 =>
 ldT H4 T_api_Value.c (b1, 0) fun x5 =>
 K x5 H4) H2)
 (c_code_Reader_value C p_r 1 (fun r7 H8 =>
 nw (T_api_Value.c T_api_Value.zero) (fun b9 H10 =>
 stT (b9, 0) (T_api_Value.c r7) (fun H11 =>
 ldT H11 T_api_Value.c (b9, 0) fun x12 =>
 c_value_Check C x12 (fun r14 H15 =>
 c_code_Reader_ask C p_r ((r14 : Int) == 0) (fun r16 H17 =>
 ift (!r16)
 (stT (b1, 0) (T_api_Value.c (⟨0, 0, [], Sl.nil⟩ : T_api_Value)) (fun H19 =>
 ldT H19 T_api_Value.c (b1, 0) fun x20 =>
 K x20 H19) H17)
 (ldT H17 T_api_Value.c (b9, 0) fun x22 =>
 stT (b1, 0) (T_api_Value.c x22) (fun H24 =>
 ldT H24 T_api_Value.c (b1, 0) fun x25 =>
 K x25 H24) H17)) H15) H11) H10) H8) H2)) H

theorem ad_code_Reader_Value (C : Ctx) (p_r : Option (Nat × Nat)) (K : T_api_Value → Heap → Prop) (H : Heap) (h : sh_code_Reader_Value C p_r K H) : c_code_Reader_Value C p_r K H := by
  refine Spec.enter Tryd.func38 rfl Tryd.ntmps38 rfl ?_
  refine GC.sub [(0, pv p_r)] ⟨rfl, trivial⟩ ?_
  refine GC.seq ?_
  refine GC.region ?_
  refine GL.alloc (cs := T_api_Value.c T_api_Value.zero) h trivial rfl rfl rfl ?_
  intro b1 H2 h
  refine GL.nil ?_
  refine GC.seq ?_
  refine GC.seq ?_
  refine GC.region ?_
  refine GL.val trivial rfl (OV.move (v := pv p_r) rfl) ?_
  refine GL.val trivial rfl (OV.eqlNil (p := p_r) rfl rfl rfl) ?_
  refine GL.nil ?_
  refine GC.cond (b := Option.isNone p_r) rfl (fun hc3 => ?_) (fun hc3 => ?_)
  · replace h := And.left h hc3
    refine GC.seq ?_
    refine GC.region ?_
    refine GL.val trivial rfl (OV.build (vs := []) (v := .agg (T_api_Value.c (⟨0, 0, [], Sl.nil⟩ : T_api_Value)).toArray) rfl (fun _ => by kernel_rfl)) ?_
    refine GL.storeT (p := (b1, 0)) (vs := T_api_Value.c (⟨0, 0, [], Sl.nil⟩ : T_api_Value)) h trivial rfl rfl rfl rfl ?_
    intro H4 h
    refine GL.nil ?_
    obtain ⟨x5, hr6, h⟩ := h
    exact GC.ret (fun _ _ hf hs => post_res1 rfl (RV.cellT (p := (b1, 0)) (cs := T_api_Value.c x5) rfl rfl rfl hr6) hf hs ⟨x5, rfl, h⟩)
  · replace h := And.right h hc3
    refine GC.skip ?_
    refine GC.seq ?_
    refine GC.region ?_
    refine GL.val trivial rfl (OV.move (v := pv p_r) rfl) ?_
    refine GL.call h trivial rfl ok_code_Reader_value (vs := [pv p_r, .int .i64 1]) rfl ?_
    rintro _ H8 ⟨r7, rfl, h⟩
    refine GL.alloc (cs := T_api_Value.c T_api_Value.zero) h trivial rfl rfl rfl ?_
    intro b9 H10 h
    refine GL.storeT (p := (b9, 0)) (vs := T_api_Value.c r7) h trivial rfl rfl rfl rfl ?_
    intro H11 h
    refine GL.nil ?_
    refine GC.seq ?_
    refine GC.seq ?_
    refine GC.region ?_
    refine GL.val trivial rfl (OV.move (v := pv p_r) rfl) ?_
    obtain ⟨x12, hr13, h⟩ := h
    refine GL.val trivial rfl (OV.loadT (p := (b9, 0)) (cs := T_api_Value.c x12) rfl rfl rfl hr13) ?_
    refine GL.call h trivial rfl ok_value_Check (vs := [.agg (T_api_Value.c x12).toArray]) rfl ?_
    rintro _ H15 ⟨r14, rfl, h⟩
    refine GL.val trivial rfl (OV.ibin (v := .bool ((r14 : Int) == 0)) rfl rfl rfl) ?_
    refine GL.call h trivial rfl ok_code_Reader_ask (vs := [pv p_r, .bool ((r14 : Int) == 0)]) rfl ?_
    rintro _ H17 ⟨r16, rfl, h⟩
    refine GL.val trivial rfl (OV.not rfl) ?_
    refine GL.nil ?_
    refine GC.cond (b := !r16) rfl (fun hc18 => ?_) (fun hc18 => ?_)
    · replace h := And.left h hc18
      refine GC.seq ?_
      refine GC.region ?_
      refine GL.val trivial rfl (OV.build (vs := []) (v := .agg (T_api_Value.c (⟨0, 0, [], Sl.nil⟩ : T_api_Value)).toArray) rfl (fun _ => by kernel_rfl)) ?_
      refine GL.storeT (p := (b1, 0)) (vs := T_api_Value.c (⟨0, 0, [], Sl.nil⟩ : T_api_Value)) h trivial rfl rfl rfl rfl ?_
      intro H19 h
      refine GL.nil ?_
      obtain ⟨x20, hr21, h⟩ := h
      exact GC.ret (fun _ _ hf hs => post_res1 rfl (RV.cellT (p := (b1, 0)) (cs := T_api_Value.c x20) rfl rfl rfl hr21) hf hs ⟨x20, rfl, h⟩)
    · replace h := And.right h hc18
      refine GC.skip ?_
      refine GC.seq ?_
      refine GC.region ?_
      obtain ⟨x22, hr23, h⟩ := h
      refine GL.val trivial rfl (OV.loadT (p := (b9, 0)) (cs := T_api_Value.c x22) rfl rfl rfl hr23) ?_
      refine GL.storeT (p := (b1, 0)) (vs := T_api_Value.c x22) h trivial rfl rfl rfl rfl ?_
      intro H24 h
      refine GL.nil ?_
      obtain ⟨x25, hr26, h⟩ := h
      exact GC.ret (fun _ _ hf hs => post_res1 rfl (RV.cellT (p := (b1, 0)) (cs := T_api_Value.c x25) rfl rfl rfl hr26) hf hs ⟨x25, rfl, h⟩)

def sh_code_Reader_OK (C : Ctx) (p_r : Option (Nat × Nat)) (K : Bool → Heap → Prop) (H : Heap) : Prop :=
  jn (α := Bool) (fun b1 H9 =>
 K b1 H9)
 (fun J2 => ift (!(Option.isNone p_r))
 (nck p_r fun p5 =>
 ldB H (p5.1, p5.2 + 2) fun x7 =>
 J2 (!x7) H)
 (J2 false H))

theorem ad_code_Reader_OK (C : Ctx) (p_r : Option (Nat × Nat)) (K : Bool → Heap → Prop) (H : Heap) (h : sh_code_Reader_OK C p_r K H) : c_code_Reader_OK C p_r K H := by
  refine Spec.enter Tryd.func39 rfl Tryd.ntmps39 rfl ?_
  refine GC.sub [(0, pv p_r)] ⟨rfl, trivial⟩ ?_
  refine GC.seq ?_
  refine GC.region ?_
  refine GL.val trivial rfl (OV.assign (v := .bool false) rfl) ?_
  refine GL.nil ?_
  refine GC.seq ?_
  refine GC.region ?_
  refine GL.val trivial rfl (OV.move (v := pv p_r) rfl) ?_
  refine GL.val trivial rfl (OV.neqNil (p := p_r) rfl rfl rfl) ?_
  refine GL.val trivial rfl (OV.move (v := .bool (!(Option.isNone p_r))) rfl) ?_
  obtain ⟨J2, h, hR3⟩ := h
  refine GL.cut (α := Bool) 6 J2 (fun b1 => [(11, .bool b1)]) ?_ ?_
  · rcases Bool.eq_false_or_eq_true (!(Option.isNone p_r)) with hc4 | hc4
    · skip
      replace h := And.left h hc4
      refine GL.val ⟨_, _, rfl, rfl, hc4⟩ rfl (OV.move (v := pv p_r) rfl) ?_
      obtain ⟨p5, hp6, h⟩ := h
      refine GL.val ⟨_, _, rfl, rfl, hc4⟩ rfl (OV.nilCheck (q := p_r) rfl hp6) ?_
      refine GL.val ⟨_, _, rfl, rfl, hc4⟩ rfl (OV.fieldAddr (p := p5) rfl rfl) ?_
      obtain ⟨x7, hr8, h⟩ := h
      refine GL.val ⟨_, _, rfl, rfl, hc4⟩ rfl (OV.load (p := (p5.1, p5.2 + 2)) rfl rfl hr8) ?_
      refine GL.val ⟨_, _, rfl, rfl, hc4⟩ rfl (OV.not rfl) ?_
      refine GL.val trivial rfl (OV.pickT (b := !(Option.isNone p_r)) (v := .bool (!x7)) rfl hc4 rfl) ?_
      exact GL.jump (fun _ _ h => h) (!x7) h ⟨rfl, trivial⟩
    · skip
      replace h := And.right h hc4
      refine GL.skip ⟨_, rfl, .inl ⟨_, rfl, hc4⟩⟩ rfl ?_
      refine GL.skip ⟨_, rfl, .inl ⟨_, rfl, hc4⟩⟩ rfl ?_
      refine GL.skip ⟨_, rfl, .inl ⟨_, rfl, hc4⟩⟩ rfl ?_
      refine GL.skip ⟨_, rfl, .inl ⟨_, rfl, hc4⟩⟩ rfl ?_
      refine GL.skip ⟨_, rfl, .inl ⟨_, rfl, hc4⟩⟩ rfl ?_
      refine GL.val trivial rfl (OV.pickF (b := !(Option.isNone p_r)) (v := .bool false) rfl hc4 rfl) ?_
      exact GL.jump (fun _ _ h => h) false h ⟨rfl, trivial⟩
  intro b1 H9 h
  replace h := hR3 b1 H9 h
  refine GL.val trivial rfl (OV.assign (v := .bool b1) rfl) ?_
  refine GL.nil ?_
  exact GC.ret (fun _ _ hf hs => post_tmp1 rfl rfl hf hs ⟨b1, rfl, h⟩)

def sh_code_Reader_Count (C : Ctx) (p_r : Option (Nat × Nat)) (p_most : Int) (K : Int → Heap → Prop) (H : Heap) : Prop :=
  ift (Option.isNone p_r)
 (K 0 H)
 (c_code_Reader_next C p_r (fun r2 H3 =>
 c_code_Reader_number C p_r (w .i64 r2) 4 (fun r4 H5 =>
 c_code_Reader_ask C p_r (((decide ((p_most : Int) ≥ 0)) && (decide ((r4 : Int) ≤ 2147483647))) && (decide (((w .i64 r4) : Int) ≤ p_most))) (fun r8 H9 =>
 ift (!r8)
 (K 0 H9)
 (K (w .i64 r4) H9)) H5) H3) H)

theorem ad_code_Reader_Count (C : Ctx) (p_r : Option (Nat × Nat)) (p_most : Int) (K : Int → Heap → Prop) (H : Heap) (h : sh_code_Reader_Count C p_r p_most K H) : c_code_Reader_Count C p_r p_most K H := by
  refine Spec.enter Tryd.func40 rfl Tryd.ntmps40 rfl ?_
  refine GC.sub [(0, pv p_r), (1, .int .i64 p_most)] ⟨rfl, rfl, trivial⟩ ?_
  refine GC.seq ?_
  refine GC.region ?_
  refine GL.val trivial rfl (OV.assign (v := .int .i64 0) rfl) ?_
  refine GL.nil ?_
  refine GC.seq ?_
  refine GC.seq ?_
  refine GC.region ?_
  refine GL.val trivial rfl (OV.move (v := pv p_r) rfl) ?_
  refine GL.val trivial rfl (OV.eqlNil (p := p_r) rfl rfl rfl) ?_
  refine GL.nil ?_
  refine GC.cond (b := Option.isNone p_r) rfl (fun hc1 => ?_) (fun hc1 => ?_)
  · replace h := And.left h hc1
    refine GC.seq ?_
    refine GC.region ?_
    refine GL.val trivial rfl (OV.assign (v := .int .i64 0) rfl) ?_
    refine GL.nil ?_
    exact GC.ret (fun _ _ hf hs => post_tmp1 rfl rfl hf hs ⟨0, rfl, h⟩)
  · replace h := And.right h hc1
    refine GC.skip ?_
    refine GC.seq ?_
    refine GC.region ?_
    refine GL.val trivial rfl (OV.move (v := pv p_r) rfl) ?_
    refine GL.val trivial rfl (OV.move (v := pv p_r) rfl) ?_
    refine GL.call h trivial rfl ok_code_Reader_next (vs := [pv p_r]) rfl ?_
    rintro _ H3 ⟨r2, rfl, h⟩
    refine GL.val trivial rfl (OV.convInt rfl rfl rfl) ?_
    refine GL.call h trivial rfl ok_code_Reader_number (vs := [pv p_r, .int .i64 (w .i64 r2), .int .i64 4]) rfl ?_
    rintro _ H5 ⟨r4, rfl, h⟩
    refine GL.val trivial rfl (OV.assign (v := .int .u64 r4) rfl) ?_
    refine GL.nil ?_
    refine GC.seq ?_
    refine GC.seq ?_
    refine GC.region ?_
    refine GL.val trivial rfl (OV.move (v := pv p_r) rfl) ?_
    refine GL.val trivial rfl (OV.move (v := .int .i64 p_most) rfl) ?_
    refine GL.val trivial rfl (OV.ibin (v := .bool (decide ((p_most : Int) ≥ 0))) rfl rfl rfl) ?_
    refine GL.val trivial rfl (OV.move (v := .bool (decide ((p_most : Int) ≥ 0))) rfl) ?_
    refine GL.cut0 3 [(19, .bool ((decide ((p_most : Int) ≥ 0)) && (decide ((r4 : Int) ≤ 2147483647)))), (1, .int .i64 p_most), (5, .int .u64 r4), (13, pv p_r)] ?_ ?_
    · rcases Bool.eq_false_or_eq_true (decide ((p_most : Int) ≥ 0)) with hc6 | hc6
      · skip
        refine GL.val ⟨_, _, rfl, rfl, hc6⟩ rfl (OV.move (v := .int .u64 r4) rfl) ?_
        refine GL.val ⟨_, _, rfl, rfl, hc6⟩ rfl (OV.ibin (v := .bool (decide ((r4 : Int) ≤ 2147483647))) rfl rfl rfl) ?_
        refine GL.val trivial rfl (OV.pickT (b := decide ((p_most : Int) ≥ 0)) (v := .bool (decide ((r4 : Int) ≤ 2147483647))) rfl hc6 rfl) ?_
        exact GL.jump0 (fun _ _ h => h) () rfl ⟨(by rw [hc6]; rfl), rfl, rfl, rfl, trivial⟩
      · skip
        refine GL.skip ⟨_, rfl, .inl ⟨_, rfl, hc6⟩⟩ rfl ?_
        refine GL.skip ⟨_, rfl, .inl ⟨_, rfl, hc6⟩⟩ rfl ?_
        refine GL.val trivial rfl (OV.pickF (b := decide ((p_most : Int) ≥ 0)) (v := .bool false) rfl hc6 rfl) ?_
        exact GL.jump0 (fun _ _ h => h) () rfl ⟨(by rw [hc6]; rfl), rfl, rfl, rfl, trivial⟩
    refine GL.val trivial rfl (OV.move (v := .bool ((decide ((p_most : Int) ≥ 0)) && (decide ((r4 : Int) ≤ 2147483647)))) rfl) ?_
    refine GL.cut0 5 [(25, .bool (((decide ((p_most : Int) ≥ 0)) && (decide ((r4 : Int) ≤ 2147483647))) && (decide (((w .i64 r4) : Int) ≤ p_most)))), (5, .int .u64 r4), (13, pv p_r)] ?_ ?_
    · rcases Bool.eq_false_or_eq_true ((decide ((p_most : Int) ≥ 0)) && (decide ((r4 : Int) ≤ 2147483647))) with hc7 | hc7
      · skip
        refine GL.val ⟨_, _, rfl, rfl, hc7⟩ rfl (OV.move (v := .int .u64 r4) rfl) ?_
        refine GL.val ⟨_, _, rfl, rfl, hc7⟩ rfl (OV.convInt rfl rfl rfl) ?_
        refine GL.val ⟨_, _, rfl, rfl, hc7⟩ rfl (OV.move (v := .int .i64 p_most) rfl) ?_
        refine GL.val ⟨_, _, rfl, rfl, hc7⟩ rfl (OV.ibin (v := .bool (decide (((w .i64 r4) : Int) ≤ p_most))) rfl rfl rfl) ?_
        refine GL.val trivial rfl (OV.pickT (b := (decide ((p_most : Int) ≥ 0)) && (decide ((r4 : Int) ≤ 2147483647))) (v := .bool (decide (((w .i64 r4) : Int) ≤ p_most))) rfl hc7 rfl) ?_
        exact GL.jump0 (fun _ _ h => h) () rfl ⟨(by rw [hc7]; rfl), rfl, rfl, trivial⟩
      · skip
        refine GL.skip ⟨_, rfl, .inl ⟨_, rfl, hc7⟩⟩ rfl ?_
        refine GL.skip ⟨_, rfl, .inl ⟨_, rfl, hc7⟩⟩ rfl ?_
        refine GL.skip ⟨_, rfl, .inl ⟨_, rfl, hc7⟩⟩ rfl ?_
        refine GL.skip ⟨_, rfl, .inl ⟨_, rfl, hc7⟩⟩ rfl ?_
        refine GL.val trivial rfl (OV.pickF (b := (decide ((p_most : Int) ≥ 0)) && (decide ((r4 : Int) ≤ 2147483647))) (v := .bool false) rfl hc7 rfl) ?_
        exact GL.jump0 (fun _ _ h => h) () rfl ⟨(by rw [hc7]; rfl), rfl, rfl, trivial⟩
    refine GL.call h trivial rfl ok_code_Reader_ask (vs := [pv p_r, .bool (((decide ((p_most : Int) ≥ 0)) && (decide ((r4 : Int) ≤ 2147483647))) && (decide (((w .i64 r4) : Int) ≤ p_most)))]) rfl ?_
    rintro _ H9 ⟨r8, rfl, h⟩
    refine GL.val trivial rfl (OV.not rfl) ?_
    refine GL.nil ?_
    refine GC.cond (b := !r8) rfl (fun hc10 => ?_) (fun hc10 => ?_)
    · replace h := And.left h hc10
      refine GC.seq ?_
      refine GC.region ?_
      refine GL.val trivial rfl (OV.assign (v := .int .i64 0) rfl) ?_
      refine GL.nil ?_
      exact GC.ret (fun _ _ hf hs => post_tmp1 rfl rfl hf hs ⟨0, rfl, h⟩)
    · replace h := And.right h hc10
      refine GC.skip ?_
      refine GC.seq ?_
      refine GC.region ?_
      refine GL.val trivial rfl (OV.move (v := .int .u64 r4) rfl) ?_
      refine GL.val trivial rfl (OV.convInt rfl rfl rfl) ?_
      refine GL.val trivial rfl (OV.assign (v := .int .i64 (w .i64 r4)) rfl) ?_
      refine GL.nil ?_
      exact GC.ret (fun _ _ hf hs => post_tmp1 rfl rfl hf hs ⟨(w .i64 r4), rfl, h⟩)

def sh_code_Reader_Flag (C : Ctx) (p_r : Option (Nat × Nat)) (K : Bool → Heap → Prop) (H : Heap) : Prop :=
  ift (Option.isNone p_r)
 (K false H)
 (c_code_Reader_next C p_r (fun r2 H3 =>
 c_code_Reader_ask C p_r (decide ((r2 : Int) ≤ 1)) (fun r4 H5 =>
 K (r4 && ((r2 : Int) == 1)) H5) H3) H)

theorem ad_code_Reader_Flag (C : Ctx) (p_r : Option (Nat × Nat)) (K : Bool → Heap → Prop) (H : Heap) (h : sh_code_Reader_Flag C p_r K H) : c_code_Reader_Flag C p_r K H := by
  refine Spec.enter Tryd.func41 rfl Tryd.ntmps41 rfl ?_
  refine GC.sub [(0, pv p_r)] ⟨rfl, trivial⟩ ?_
  refine GC.seq ?_
  refine GC.region ?_
  refine GL.val trivial rfl (OV.assign (v := .bool false) rfl) ?_
  refine GL.nil ?_
  refine GC.seq ?_
  refine GC.seq ?_
  refine GC.region ?_
  refine GL.val trivial rfl (OV.move (v := pv p_r) rfl) ?_
  refine GL.val trivial rfl (OV.eqlNil (p := p_r) rfl rfl rfl) ?_
  refine GL.nil ?_
  refine GC.cond (b := Option.isNone p_r) rfl (fun hc1 => ?_) (fun hc1 => ?_)
  · replace h := And.left h hc1
    refine GC.seq ?_
    refine GC.region ?_
    refine GL.val trivial rfl (OV.assign (v := .bool false) rfl) ?_
    refine GL.nil ?_
    exact GC.ret (fun _ _ hf hs => post_tmp1 rfl rfl hf hs ⟨false, rfl, h⟩)
  · replace h := And.right h hc1
    refine GC.skip ?_
    refine GC.seq ?_
    refine GC.region ?_
    refine GL.val trivial rfl (OV.move (v := pv p_r) rfl) ?_
    refine GL.call h trivial rfl ok_code_Reader_next (vs := [pv p_r]) rfl ?_
    rintro _ H3 ⟨r2, rfl, h⟩
    refine GL.val trivial rfl (OV.assign (v := .int .u8 r2) rfl) ?_
    refine GL.nil ?_
    refine GC.seq ?_
    refine GC.region ?_
    refine GL.val trivial rfl (OV.move (v := pv p_r) rfl) ?_
    refine GL.val trivial rfl (OV.move (v := .int .u8 r2) rfl) ?_
    refine GL.val trivial rfl (OV.ibin (v := .bool (decide ((r2 : Int) ≤ 1))) rfl rfl rfl) ?_
    refine GL.call h trivial rfl ok_code_Reader_ask (vs := [pv p_r, .bool (decide ((r2 : Int) ≤ 1))]) rfl ?_
    rintro _ H5 ⟨r4, rfl, h⟩
    refine GL.val trivial rfl (OV.move (v := .bool r4) rfl) ?_
    refine GL.cut0 3 [(15, .bool (r4 && ((r2 : Int) == 1)))] ?_ ?_
    · rcases Bool.eq_false_or_eq_true r4 with hc6 | hc6
      · skip
        refine GL.val ⟨_, _, rfl, rfl, hc6⟩ rfl (OV.move (v := .int .u8 r2) rfl) ?_
        refine GL.val ⟨_, _, rfl, rfl, hc6⟩ rfl (OV.ibin (v := .bool ((r2 : Int) == 1)) rfl rfl rfl) ?_
        refine GL.val trivial rfl (OV.pickT (b := r4) (v := .bool ((r2 : Int) == 1)) rfl hc6 rfl) ?_
        exact GL.jump0 (fun _ _ h => h) () rfl ⟨(by rw [hc6]; rfl), trivial⟩
      · skip
        refine GL.skip ⟨_, rfl, .inl ⟨_, rfl, hc6⟩⟩ rfl ?_
        refine GL.skip ⟨_, rfl, .inl ⟨_, rfl, hc6⟩⟩ rfl ?_
        refine GL.val trivial rfl (OV.pickF (b := r4) (v := .bool false) rfl hc6 rfl) ?_
        exact GL.jump0 (fun _ _ h => h) () rfl ⟨(by rw [hc6]; rfl), trivial⟩
    refine GL.val trivial rfl (OV.assign (v := .bool (r4 && ((r2 : Int) == 1))) rfl) ?_
    refine GL.nil ?_
    exact GC.ret (fun _ _ hf hs => post_tmp1 rfl rfl hf hs ⟨(r4 && ((r2 : Int) == 1)), rfl, h⟩)

def sh_law03_parts (C : Ctx) (p_v : T_api_Value) (K : Int → Heap → Prop) (H : Heap) : Prop :=
  nw (T_api_Value.c p_v) (fun b1 H2 =>
 ldS H2 ((b1, 0).1, (b1, 0).2 + 2) fun x3 =>
 lp (α := Int × Int) ((w .i64 (1 + (w .i64 (Int.tdiv (List.length x3 : Int) 64)))), 0) H2 (fun x5 J6 H7 =>
 ldL H7 ((b1, 0).1, (b1, 0).2 + 3) fun x8 =>
 ift ((decide ((x5.2 : Int) < (Sl.len x8 : Int))) && (decide ((x5.1 : Int) < 3000)))
 (ldL H7 ((b1, 0).1, (b1, 0).2 + 3) fun x12 =>
 ixa x12 x5.2 fun p14 =>
 ldT H7 T_api_Value.c (p14.1, p14.2 + (x5.2 : Int).toNat * 4) fun x19 =>
 c_law03_parts C x19 (fun r21 H22 =>
 J6 ((w .i64 (x5.1 + r21)), (w .i64 (x5.2 + 1))) H22) H7)
 (K x5.1 H7))) H

theorem ad_law03_parts (C : Ctx) (p_v : T_api_Value) (K : Int → Heap → Prop) (H : Heap) (h : sh_law03_parts C p_v K H) : c_law03_parts C p_v K H := by
  refine Spec.enter Tryd.func42 rfl Tryd.ntmps42 rfl ?_
  refine GC.sub [(0, .agg (T_api_Value.c p_v).toArray)] ⟨rfl, trivial⟩ ?_
  refine GC.seq ?_
  refine GC.region ?_
  refine GL.box (v := .agg (T_api_Value.c p_v).toArray) (cs := T_api_Value.c p_v) h trivial rfl rfl rfl ?_
  intro b1 H2 h
  refine GL.val trivial rfl (OV.assign (v := .int .i64 0) rfl) ?_
  refine GL.nil ?_
  refine GC.seq ?_
  refine GC.region ?_
  refine GL.val trivial rfl (OV.fieldAddr (p := (b1, 0)) rfl rfl) ?_
  obtain ⟨x3, hr4, h⟩ := h
  refine GL.val trivial rfl (OV.load (p := ((b1, 0).1, (b1, 0).2 + 2)) rfl rfl hr4) ?_
  refine GL.val trivial rfl (OV.lenStr (s := x3) rfl rfl) ?_
  refine GL.val trivial rfl (OV.quo rfl rfl (by decide)) ?_
  refine GL.val trivial rfl (OV.ibin (v := .int .i64 (w .i64 (1 + (w .i64 (Int.tdiv (List.length x3 : Int) 64))))) rfl rfl rfl) ?_
  refine GL.val trivial rfl (OV.assign (v := .int .i64 (w .i64 (1 + (w .i64 (Int.tdiv (List.length x3 : Int) 64))))) rfl) ?_
  refine GL.nil ?_
  refine GC.seq ?_
  refine GC.seq ?_
  refine GC.region ?_
  refine GL.val trivial rfl (OV.assign (v := .int .i64 0) rfl) ?_
  refine GL.nil ?_
  refine GC.block ?_
  refine GC.loop (α := Int × Int) h (fun x5 => [(3, .int .i64 x5.1), (4, .int .i64 x5.2), (1, pv (some (b1, 0)))]) ⟨rfl, rfl, rfl, trivial⟩ ?_
  intro x5 H7 J6 h
  refine GC.seq ?_
  refine GC.seq ?_
  refine GC.region ?_
  refine GL.val trivial rfl (OV.move (v := .int .i64 x5.2) rfl) ?_
  refine GL.val trivial rfl (OV.fieldAddr (p := (b1, 0)) rfl rfl) ?_
  obtain ⟨x8, hr9, h⟩ := h
  refine GL.val trivial rfl (OV.load (p := ((b1, 0).1, (b1, 0).2 + 3)) rfl rfl hr9) ?_
  refine GL.val trivial rfl (OV.lenSl (s := x8) rfl rfl) ?_
  refine GL.val trivial rfl (OV.ibin (v := .bool (decide ((x5.2 : Int) < (Sl.len x8 : Int)))) rfl rfl rfl) ?_
  refine GL.val trivial rfl (OV.move (v := .bool (decide ((x5.2 : Int) < (Sl.len x8 : Int)))) rfl) ?_
  refine GL.cut0 3 [(18, .bool ((decide ((x5.2 : Int) < (Sl.len x8 : Int))) && (decide ((x5.1 : Int) < 3000)))), (1, pv (some (b1, 0))), (3, .int .i64 x5.1), (4, .int .i64 x5.2)] ?_ ?_
  · rcases Bool.eq_false_or_eq_true (decide ((x5.2 : Int) < (Sl.len x8 : Int))) with hc10 | hc10
    · skip
      refine GL.val ⟨_, _, rfl, rfl, hc10⟩ rfl (OV.move (v := .int .i64 x5.1) rfl) ?_
      refine GL.val ⟨_, _, rfl, rfl, hc10⟩ rfl (OV.ibin (v := .bool (decide ((x5.1 : Int) < 3000))) rfl rfl rfl) ?_
      refine GL.val trivial rfl (OV.pickT (b := decide ((x5.2 : Int) < (Sl.len x8 : Int))) (v := .bool (decide ((x5.1 : Int) < 3000))) rfl hc10 rfl) ?_
      exact GL.jump0 (fun _ _ h => h) () rfl ⟨(by rw [hc10]; rfl), rfl, rfl, rfl, trivial⟩
    · skip
      refine GL.skip ⟨_, rfl, .inl ⟨_, rfl, hc10⟩⟩ rfl ?_
      refine GL.skip ⟨_, rfl, .inl ⟨_, rfl, hc10⟩⟩ rfl ?_
      refine GL.val trivial rfl (OV.pickF (b := decide ((x5.2 : Int) < (Sl.len x8 : Int))) (v := .bool false) rfl hc10 rfl) ?_
      exact GL.jump0 (fun _ _ h => h) () rfl ⟨(by rw [hc10]; rfl), rfl, rfl, rfl, trivial⟩
  refine GL.nil ?_
  refine GC.cond (b := (decide ((x5.2 : Int) < (Sl.len x8 : Int))) && (decide ((x5.1 : Int) < 3000))) rfl (fun hc11 => ?_) (fun hc11 => ?_)
  · replace h := And.left h hc11
    refine GC.skip ?_
    refine GC.seq ?_
    refine GC.block ?_
    refine GC.region ?_
    refine GL.val trivial rfl (OV.move (v := .int .i64 x5.1) rfl) ?_
    refine GL.val trivial rfl (OV.fieldAddr (p := (b1, 0)) rfl rfl) ?_
    obtain ⟨x12, hr13, h⟩ := h
    refine GL.val trivial rfl (OV.load (p := ((b1, 0).1, (b1, 0).2 + 3)) rfl rfl hr13) ?_
    refine GL.val trivial rfl (OV.move (v := .int .i64 x5.2) rfl) ?_
    obtain ⟨p14, ha15, hb16, hc17, hd18, h⟩ := h
    refine GL.val trivial rfl (OV.indexAddr (s := x12) rfl rfl rfl rfl ha15 hb16 hc17 hd18) ?_
    obtain ⟨x19, hr20, h⟩ := h
    refine GL.val trivial rfl (OV.loadT (p := (p14.1, p14.2 + (x5.2 : Int).toNat * 4)) (cs := T_api_Value.c x19) rfl rfl rfl hr20) ?_
    refine GL.call h trivial rfl ok_law03_parts (vs := [.agg (T_api_Value.c x19).toArray]) rfl ?_
    rintro _ H22 ⟨r21, rfl, h⟩
    refine GL.val trivial rfl (OV.ibin (v := .int .i64 (w .i64 (x5.1 + r21))) rfl rfl rfl) ?_
    refine GL.val trivial rfl (OV.assign (v := .int .i64 (w .i64 (x5.1 + r21))) rfl) ?_
    refine GL.nil_to (fun _ _ h => h) ?_
    refine GC.region ?_
    refine GL.val trivial rfl (OV.move (v := .int .i64 x5.2) rfl) ?_
    refine GL.val trivial rfl (OV.ibin (v := .int .i64 (w .i64 (x5.2 + 1))) rfl rfl rfl) ?_
    refine GL.val trivial rfl (OV.assign (v := .int .i64 (w .i64 (x5.2 + 1))) rfl) ?_
    exact GL.jump (fun _ _ h => h) ((w .i64 (x5.1 + r21)), (w .i64 (x5.2 + 1))) h ⟨rfl, rfl, rfl, trivial⟩
  · replace h := And.right h hc11
    refine GC.exit_to (fun _ _ h => h) ?_
    refine GC.seq ?_
    refine GC.region ?_
    refine GL.val trivial rfl (OV.move (v := .int .i64 x5.1) rfl) ?_
    refine GL.val trivial rfl (OV.assign (v := .int .i64 x5.1) rfl) ?_
    refine GL.nil ?_
    exact GC.ret (fun _ _ hf hs => post_tmp1 rfl rfl hf hs ⟨x5.1, rfl, h⟩)

def sh_code_behind (C : Ctx) (p_b : Sl) (K : Option (Nat × Nat) → Heap → Prop) (H : Heap) : Prop :=
  c_slices_Clone_byte_byte C p_b (fun r1 H2 =>
 nw (T_code_pen.c (⟨r1, 0⟩ : T_code_pen)) (fun b3 H4 =>
 K (some (b3, 0)) H4) H2) H

theorem ad_code_behind (C : Ctx) (p_b : Sl) (K : Option (Nat × Nat) → Heap → Prop) (H : Heap) (h : sh_code_behind C p_b K H) : c_code_behind C p_b K H := by
  refine Spec.enter Tryd.func43 rfl Tryd.ntmps43 rfl ?_
  refine GC.sub [(0, slv p_b)] ⟨rfl, trivial⟩ ?_
  refine GC.seq ?_
  refine GC.region ?_
  refine GL.val trivial rfl (OV.assign (v := pv none) rfl) ?_
  refine GL.nil ?_
  refine GC.seq ?_
  refine GC.region ?_
  refine GL.val trivial rfl (OV.move (v := slv p_b) rfl) ?_
  refine GL.call h trivial rfl ok_slices_Clone_byte_byte (vs := [slv p_b]) rfl ?_
  rintro _ H2 ⟨r1, rfl, h⟩
  refine GL.val trivial rfl (OV.build (vs := [(0, slv r1)]) (v := .agg (T_code_pen.c (⟨r1, 0⟩ : T_code_pen)).toArray) rfl (fun _ => by kernel_rfl)) ?_
  refine GL.box (v := .agg (T_code_pen.c (⟨r1, 0⟩ : T_code_pen)).toArray) (cs := T_code_pen.c (⟨r1, 0⟩ : T_code_pen)) h trivial rfl rfl rfl ?_
  intro b3 H4 h
  refine GL.val trivial rfl (OV.assign (v := pv (some (b3, 0))) rfl) ?_
  refine GL.nil ?_
  exact GC.ret (fun _ _ hf hs => post_tmp1 rfl rfl hf hs ⟨(some (b3, 0)), rfl, h⟩)

def sh_code_pen_num (C : Ctx) (p_p : Option (Nat × Nat)) (p_n : Int) (K : Heap → Prop) (H : Heap) : Prop :=
  jn (α := Int) (fun x2 H3 =>
 c_code_pen_flip C p_p (decide ((p_n : Int) < 0)) (fun H6 =>
 c_code_pen_number C p_p 128 (w .u64 x2) (fun H7 =>
 c_code_pen_flip C p_p (decide ((p_n : Int) < 0)) (fun H8 =>
 K H8) H7) H6) H3)
 (fun J1 => ift (decide ((p_n : Int) < 0))
 (J1 (bXor .i64 (-1) p_n) H)
 (J1 p_n H))

theorem ad_code_pen_num (C : Ctx) (p_p : Option (Nat × Nat)) (p_n : Int) (K : Heap → Prop) (H : Heap) (h : sh_code_pen_num C p_p p_n K H) : c_code_pen_num C p_p p_n K H := by
  refine Spec.enter Tryd.func44 rfl Tryd.ntmps44 rfl ?_
  refine GC.sub [(0, pv p_p), (1, .int .i64 p_n)] ⟨rfl, rfl, trivial⟩ ?_
  refine GC.seq ?_
  refine GC.region ?_
  refine GL.val trivial rfl (OV.move (v := .int .i64 p_n) rfl) ?_
  refine GL.val trivial rfl (OV.ibin (v := .bool (decide ((p_n : Int) < 0))) rfl rfl rfl) ?_
  refine GL.val trivial rfl (OV.assign (v := .bool (decide ((p_n : Int) < 0))) rfl) ?_
  refine GL.nil ?_
  obtain ⟨J1, h, hR4⟩ := h
  refine GC.join (α := Int) J1 (fun x2 => [(1, .int .i64 x2), (0, pv p_p), (4, .bool (decide ((p_n : Int) < 0)))]) ?_ ?_
  · skip
    refine GC.seq ?_
    refine GC.region ?_
    refine GL.val trivial rfl (OV.move (v := .bool (decide ((p_n : Int) < 0))) rfl) ?_
    refine GL.nil ?_
    refine GC.cond (b := decide ((p_n : Int) < 0)) rfl (fun hc5 => ?_) (fun hc5 => ?_)
    · replace h := And.left h hc5
      refine GC.region ?_
      refine GL.val trivial rfl (OV.move (v := .int .i64 p_n) rfl) ?_
      refine GL.val trivial rfl (OV.iun (v := .int .i64 (bXor .i64 (-1) p_n)) rfl rfl) ?_
      refine GL.val trivial rfl (OV.assign (v := .int .i64 (bXor .i64 (-1) p_n)) rfl) ?_
      exact GL.jump (fun _ _ h => h) (bXor .i64 (-1) p_n) h ⟨rfl, rfl, rfl, trivial⟩
    · replace h := And.right h hc5
      exact GC.jump (fun _ _ h => h) p_n h ⟨rfl, rfl, rfl, trivial⟩
  · intro x2 H3 h
    replace h := hR4 x2 H3 h
    refine GC.seq ?_
    refine GC.region ?_
    refine GL.val trivial rfl (OV.move (v := pv p_p) rfl) ?_
    refine GL.val trivial rfl (OV.move (v := .bool (decide ((p_n : Int) < 0))) rfl) ?_
    refine GL.call h trivial rfl ok_code_pen_flip (vs := [pv p_p, .bool (decide ((p_n : Int) < 0))]) rfl ?_
    rintro _ H6 ⟨rfl, h⟩
    refine GL.nil ?_
    refine GC.seq ?_
    refine GC.region ?_
    refine GL.val trivial rfl (OV.move (v := pv p_p) rfl) ?_
    refine GL.val trivial rfl (OV.move (v := .int .i64 x2) rfl) ?_
    refine GL.val trivial rfl (OV.convInt rfl rfl rfl) ?_
    refine GL.call h trivial rfl ok_code_pen_number (vs := [pv p_p, .int .u8 128, .int .u64 (w .u64 x2)]) rfl ?_
    rintro _ H7 ⟨rfl, h⟩
    refine GL.nil ?_
    refine GC.region ?_
    refine GL.val trivial rfl (OV.move (v := pv p_p) rfl) ?_
    refine GL.val trivial rfl (OV.move (v := .bool (decide ((p_n : Int) < 0))) rfl) ?_
    refine GL.call h trivial rfl ok_code_pen_flip (vs := [pv p_p, .bool (decide ((p_n : Int) < 0))]) rfl ?_
    rintro _ H8 ⟨rfl, h⟩
    exact GL.ends (fun _ _ hf hs => post_tmp0 rfl hf hs ⟨rfl, h⟩)

def sh_code_pen_number (C : Ctx) (p_p : Option (Nat × Nat)) (p_first : Int) (p_u : Int) (K : Heap → Prop) (H : Heap) : Prop :=
  c_math_bits_Len64 C p_u (fun r1 H2 =>
 nw ([.int .u8 (w .u8 (p_first + (w .u8 (w .i64 (Int.tdiv (w .i64 (r1 + 7)) 8)))))]) (fun b3 H4 =>
 c_code_pen_put C p_p (Sl.of (some (b3, 0)) 1 1) (fun H5 =>
 lp (α := Int) (w .i64 (Int.tdiv (w .i64 (r1 + 7)) 8)) H5 (fun x6 J7 H8 =>
 ift (decide ((x6 : Int) > 0))
 (0 ≤ (w .i64 (8 * (w .i64 (x6 - 1)))) ∧
 nw ([.int .u8 (w .u8 (sShr .u64 p_u (w .i64 (8 * (w .i64 (x6 - 1))))))]) (fun b11 H12 =>
 c_code_pen_put C p_p (Sl.of (some (b11, 0)) 1 1) (fun H13 =>
 J7 (w .i64 (x6 - 1)) H13) H12) H8)
 (K H8))) H4) H2) H

theorem ad_code_pen_number (C : Ctx) (p_p : Option (Nat × Nat)) (p_first : Int) (p_u : Int) (K : Heap → Prop) (H : Heap) (h : sh_code_pen_number C p_p p_first p_u K H) : c_code_pen_number C p_p p_first p_u K H := by
  refine Spec.enter Tryd.func48 rfl Tryd.ntmps48 rfl ?_
  refine GC.sub [(0, pv p_p), (1, .int .u8 p_first), (2, .int .u64 p_u)] ⟨rfl, rfl, rfl, trivial⟩ ?_
  refine GC.seq ?_
  refine GC.region ?_
  refine GL.val trivial rfl (OV.move (v := .int .u64 p_u) rfl) ?_
  refine GL.call h trivial rfl ok_math_bits_Len64 (vs := [.int .u64 p_u]) rfl ?_
  rintro _ H2 ⟨r1, rfl, h⟩
  refine GL.val trivial rfl (OV.ibin (v := .int .i64 (w .i64 (r1 + 7))) rfl rfl rfl) ?_
  refine GL.val trivial rfl (OV.quo rfl rfl (by decide)) ?_
  refine GL.val trivial rfl (OV.assign (v := .int .i64 (w .i64 (Int.tdiv (w .i64 (r1 + 7)) 8))) rfl) ?_
  refine GL.nil ?_
  refine GC.seq ?_
  refine GC.region ?_
  refine GL.val trivial rfl (OV.move (v := pv p_p) rfl) ?_
  refine GL.val trivial rfl (OV.move (v := .int .u8 p_first) rfl) ?_
  refine GL.val trivial rfl (OV.move (v := .int .i64 (w .i64 (Int.tdiv (w .i64 (r1 + 7)) 8))) rfl) ?_
  refine GL.val trivial rfl (OV.convInt rfl rfl rfl) ?_
  refine GL.val trivial rfl (OV.ibin (v := .int .u8 (w .u8 (p_first + (w .u8 (w .i64 (Int.tdiv (w .i64 (r1 + 7)) 8)))))) rfl rfl rfl) ?_
  refine GL.buildSlice (cs := [.int .u8 (w .u8 (p_first + (w .u8 (w .i64 (Int.tdiv (w .i64 (r1 + 7)) 8)))))]) h trivial rfl (vs := [(0, .int .u8 (w .u8 (p_first + (w .u8 (w .i64 (Int.tdiv (w .i64 (r1 + 7)) 8))))))]) rfl ⟨5, fun _ => by kernel_rfl⟩ ?_
  intro b3 H4 h
  refine GL.call h trivial rfl ok_code_pen_put (vs := [pv p_p, slv (Sl.of (some (b3, 0)) 1 1)]) rfl ?_
  rintro _ H5 ⟨rfl, h⟩
  refine GL.nil ?_
  refine GC.block ?_
  refine GC.loop (α := Int) h (fun x6 => [(6, .int .i64 x6), (0, pv p_p), (2, .int .u64 p_u)]) ⟨rfl, rfl, rfl, trivial⟩ ?_
  intro x6 H8 J7 h
  refine GC.seq ?_
  refine GC.seq ?_
  refine GC.region ?_
  refine GL.val trivial rfl (OV.move (v := .int .i64 x6) rfl) ?_
  refine GL.val trivial rfl (OV.ibin (v := .bool (decide ((x6 : Int) > 0))) rfl rfl rfl) ?_
  refine GL.nil ?_
  refine GC.cond (b := decide ((x6 : Int) > 0)) rfl (fun hc9 => ?_) (fun hc9 => ?_)
  · replace h := And.left h hc9
    refine GC.skip ?_
    refine GC.seq ?_
    refine GC.block ?_
    refine GC.region ?_
    refine GL.val trivial rfl (OV.move (v := pv p_p) rfl) ?_
    refine GL.val trivial rfl (OV.move (v := .int .u64 p_u) rfl) ?_
    refine GL.val trivial rfl (OV.move (v := .int .i64 x6) rfl) ?_
    refine GL.val trivial rfl (OV.ibin (v := .int .i64 (w .i64 (x6 - 1))) rfl rfl rfl) ?_
    refine GL.val trivial rfl (OV.ibin (v := .int .i64 (w .i64 (8 * (w .i64 (x6 - 1))))) rfl rfl rfl) ?_
    obtain ⟨hb10, h⟩ := h
    refine GL.val trivial rfl (OV.shr rfl rfl hb10) ?_
    refine GL.val trivial rfl (OV.convInt rfl rfl rfl) ?_
    refine GL.buildSlice (cs := [.int .u8 (w .u8 (sShr .u64 p_u (w .i64 (8 * (w .i64 (x6 - 1))))))]) h trivial rfl (vs := [(0, .int .u8 (w .u8 (sShr .u64 p_u (w .i64 (8 * (w .i64 (x6 - 1)))))))]) rfl ⟨5, fun _ => by kernel_rfl⟩ ?_
    intro b11 H12 h
    refine GL.call h trivial rfl ok_code_pen_put (vs := [pv p_p, slv (Sl.of (some (b11, 0)) 1 1)]) rfl ?_
    rintro _ H13 ⟨rfl, h⟩
    refine GL.nil_to (fun _ _ h => h) ?_
    refine GC.region ?_
    refine GL.val trivial rfl (OV.move (v := .int .i64 x6) rfl) ?_
    refine GL.val trivial rfl (OV.ibin (v := .int .i64 (w .i64 (x6 - 1))) rfl rfl rfl) ?_
    refine GL.val trivial rfl (OV.assign (v := .int .i64 (w .i64 (x6 - 1))) rfl) ?_
    exact GL.jump (fun _ _ h => h) (w .i64 (x6 - 1)) h ⟨rfl, rfl, rfl, trivial⟩
  · replace h := And.right h hc9
    exact GC.exit_ends (fun _ _ hf hs => post_tmp0 rfl hf hs ⟨rfl, h⟩)

def sh_code_pen_text (C : Ctx) (p_p : Option (Nat × Nat)) (p_s : Str) (K : Heap → Prop) (H : Heap) : Prop :=
  lp (α := Int) 0 H (fun x1 J2 H3 =>
 ift (decide ((x1 : Int) < (List.length p_s : Int)))
 (jn (α := Unit) (fun x6 H7 =>
 J2 (w .i64 (x1 + 1)) H7)
 (fun J5 => ixs p_s x1 fun c9 =>
 nw ([.int .u8 (c9.toNat : Int)]) (fun b12 H13 =>
 c_code_pen_put C p_p (Sl.of (some (b12, 0)) 1 1) (fun H14 =>
 ixs p_s x1 fun c15 =>
 ift (((c15.toNat : Int) : Int) == 0)
 (nw ([.int .u8 255]) (fun b19 H20 =>
 c_code_pen_put C p_p (Sl.of (some (b19, 0)) 1 1) (fun H21 =>
 J5 () H21) H20) H14)
 (J5 () H14)) H13) H3))
 (nw ([.int .u8 0, .int .u8 0]) (fun b22 H23 =>
 c_code_pen_put C p_p (Sl.of (some (b22, 0)) 2 2) (fun H24 =>
 K H24) H23) H3))

theorem ad_code_pen_text (C : Ctx) (p_p : Option (Nat × Nat)) (p_s : Str) (K : Heap → Prop) (H : Heap) (h : sh_code_pen_text C p_p p_s K H) : c_code_pen_text C p_p p_s K H := by
  refine Spec.enter Tryd.func49 rfl Tryd.ntmps49 rfl ?_
  refine GC.sub [(0, pv p_p), (1, sv p_s)] ⟨rfl, rfl, trivial⟩ ?_
  refine GC.seq ?_
  refine GC.seq ?_
  refine GC.region ?_
  refine GL.val trivial rfl (OV.move (v := sv p_s) rfl) ?_
  refine GL.val trivial rfl (OV.lenStr (s := p_s) rfl rfl) ?_
  refine GL.val trivial rfl (OV.move (v := .int .i64 0) rfl) ?_
  refine GL.nil ?_
  refine GC.block ?_
  refine GC.loop (α := Int) h (fun x1 => [(7, .int .i64 x1), (0, pv p_p), (1, sv p_s), (6, .int .i64 (List.length p_s : Int))]) ⟨rfl, rfl, rfl, rfl, trivial⟩ ?_
  intro x1 H3 J2 h
  refine GC.seq ?_
  refine GC.region ?_
  refine GL.val trivial rfl (OV.ibin (v := .bool (decide ((x1 : Int) < (List.length p_s : Int)))) rfl rfl rfl) ?_
  refine GL.nil ?_
  refine GC.seq ?_
  refine GC.cond (b := decide ((x1 : Int) < (List.length p_s : Int))) rfl (fun hc4 => ?_) (fun hc4 => ?_)
  · replace h := And.left h hc4
    refine GC.skip ?_
    obtain ⟨J5, h, hR8⟩ := h
    refine GC.join (α := Unit) J5 (fun _ => [(0, pv p_p), (1, sv p_s), (6, .int .i64 (List.length p_s : Int)), (7, .int .i64 x1)]) ?_ ?_
    · skip
      refine GC.block ?_
      refine GC.seq ?_
      refine GC.region ?_
      refine GL.val trivial rfl (OV.move (v := .int .i64 x1) rfl) ?_
      refine GL.val trivial rfl (OV.assign (v := .int .i64 x1) rfl) ?_
      refine GL.nil ?_
      refine GC.seq ?_
      refine GC.region ?_
      refine GL.val trivial rfl (OV.move (v := pv p_p) rfl) ?_
      refine GL.val trivial rfl (OV.move (v := sv p_s) rfl) ?_
      refine GL.val trivial rfl (OV.move (v := .int .i64 x1) rfl) ?_
      obtain ⟨c9, ha10, hb11, h⟩ := h
      refine GL.val trivial rfl (OV.indexStr (s := p_s) rfl rfl rfl ha10 hb11) ?_
      refine GL.buildSlice (cs := [.int .u8 (c9.toNat : Int)]) h trivial rfl (vs := [(0, .int .u8 (c9.toNat : Int))]) rfl ⟨5, fun _ => by kernel_rfl⟩ ?_
      intro b12 H13 h
      refine GL.call h trivial rfl ok_code_pen_put (vs := [pv p_p, slv (Sl.of (some (b12, 0)) 1 1)]) rfl ?_
      rintro _ H14 ⟨rfl, h⟩
      refine GL.nil ?_
      refine GC.seq ?_
      refine GC.region ?_
      refine GL.val trivial rfl (OV.move (v := sv p_s) rfl) ?_
      refine GL.val trivial rfl (OV.move (v := .int .i64 x1) rfl) ?_
      obtain ⟨c15, ha16, hb17, h⟩ := h
      refine GL.val trivial rfl (OV.indexStr (s := p_s) rfl rfl rfl ha16 hb17) ?_
      refine GL.val trivial rfl (OV.ibin (v := .bool (((c15.toNat : Int) : Int) == 0)) rfl rfl rfl) ?_
      refine GL.nil ?_
      refine GC.cond (b := ((c15.toNat : Int) : Int) == 0) rfl (fun hc18 => ?_) (fun hc18 => ?_)
      · replace h := And.left h hc18
        refine GC.region ?_
        refine GL.val trivial rfl (OV.move (v := pv p_p) rfl) ?_
        refine GL.buildSlice (cs := [.int .u8 255]) h trivial rfl (vs := [(0, .int .u8 255)]) rfl ⟨5, fun _ => by kernel_rfl⟩ ?_
        intro b19 H20 h
        refine GL.call h trivial rfl ok_code_pen_put (vs := [pv p_p, slv (Sl.of (some (b19, 0)) 1 1)]) rfl ?_
        rintro _ H21 ⟨rfl, h⟩
        exact GL.jump (fun _ _ h => h) () h ⟨rfl, rfl, rfl, rfl, trivial⟩
      · replace h := And.right h hc18
        exact GC.jump (fun _ _ h => h) () h ⟨rfl, rfl, rfl, rfl, trivial⟩
    · intro x6 H7 h
      replace h := hR8 x6 H7 h
      refine GC.region ?_
      refine GL.val trivial rfl (OV.ibin (v := .int .i64 (w .i64 (x1 + 1))) rfl rfl rfl) ?_
      refine GL.val trivial rfl (OV.move (v := .int .i64 (w .i64 (x1 + 1))) rfl) ?_
      exact GL.jump (fun _ _ h => h) (w .i64 (x1 + 1)) h ⟨rfl, rfl, rfl, rfl, trivial⟩
  · replace h := And.right h hc4
    refine GC.exit_to (fun _ _ h => h) ?_
    refine GC.region ?_
    refine GL.val trivial rfl (OV.move (v := pv p_p) rfl) ?_
    refine GL.buildSlice (cs := [.int .u8 0, .int .u8 0]) h trivial rfl (vs := [(0, .int .u8 0), (1, .int .u8 0)]) rfl ⟨5, fun _ => by kernel_rfl⟩ ?_
    intro b22 H23 h
    refine GL.call h trivial rfl ok_code_pen_put (vs := [pv p_p, slv (Sl.of (some (b22, 0)) 2 2)]) rfl ?_
    rintro _ H24 ⟨rfl, h⟩
    exact GL.ends (fun _ _ hf hs => post_tmp0 rfl hf hs ⟨rfl, h⟩)

def sh_code_pen_put (C : Ctx) (p_p : Option (Nat × Nat)) (p_l : Sl) (K : Heap → Prop) (H : Heap) : Prop :=
  lp (α := Int) 0 H (fun x1 J2 H3 =>
 ift (decide ((x1 : Int) < (Sl.len p_l : Int)))
 (ixa p_l x1 fun p5 =>
 ldI H3 .u8 (p5.1, p5.2 + (x1 : Int).toNat * 1) fun x10 =>
 dr H3 fun Hs12 =>
 nck p_p fun p14 =>
 ldL Hs12 (p14.1, p14.2 + 0) fun x16 =>
 nck p_p fun p18 =>
 ldI Hs12 .u8 (p18.1, p18.2 + 1) fun x20 =>
 nw ([.int .u8 (bXor .u8 x10 x20)]) (fun b23 H24 =>
 Heap.le Hs12 H24 ∧
 apS ([.int .u8 0]) 1 x16 (Sl.of (some (b23, 0)) 1 1) (fun r26 H27 =>
 Heap.le Hs12 H27 ∧
 nck p_p fun p28 =>
 st (p28.1, p28.2 + 0) (slv r26) (fun H30 =>
 J2 (w .i64 (x1 + 1)) H30) H27) H24) H3)
 (K H3))

theorem ad_code_pen_put (C : Ctx) (p_p : Option (Nat × Nat)) (p_l : Sl) (K : Heap → Prop) (H : Heap) (h : sh_code_pen_put C p_p p_l K H) : c_code_pen_put C p_p p_l K H := by
  refine Spec.enter Tryd.func50 rfl Tryd.ntmps50 rfl ?_
  refine GC.sub [(0, pv p_p), (1, slv p_l)] ⟨rfl, rfl, trivial⟩ ?_
  refine GC.seq ?_
  refine GC.region ?_
  refine GL.val trivial rfl (OV.move (v := slv p_l) rfl) ?_
  refine GL.val trivial rfl (OV.lenSl (s := p_l) rfl rfl) ?_
  refine GL.val trivial rfl (OV.move (v := .int .i64 0) rfl) ?_
  refine GL.nil ?_
  refine GC.block ?_
  refine GC.loop (α := Int) h (fun x1 => [(8, .int .i64 x1), (0, pv p_p), (6, slv p_l), (7, .int .i64 (Sl.len p_l : Int))]) ⟨rfl, rfl, rfl, rfl, trivial⟩ ?_
  intro x1 H3 J2 h
  refine GC.seq ?_
  refine GC.region ?_
  refine GL.val trivial rfl (OV.ibin (v := .bool (decide ((x1 : Int) < (Sl.len p_l : Int)))) rfl rfl rfl) ?_
  refine GL.nil ?_
  refine GC.seq ?_
  refine GC.cond (b := decide ((x1 : Int) < (Sl.len p_l : Int))) rfl (fun hc4 => ?_) (fun hc4 => ?_)
  · replace h := And.left h hc4
    refine GC.skip ?_
    refine GC.seq ?_
    refine GC.block ?_
    refine GC.seq ?_
    refine GC.region ?_
    obtain ⟨p5, ha6, hb7, hc8, hd9, h⟩ := h
    refine GL.val trivial rfl (OV.indexAddr (s := p_l) rfl rfl rfl rfl ha6 hb7 hc8 hd9) ?_
    obtain ⟨x10, hr11, h⟩ := h
    refine GL.val trivial rfl (OV.load (p := (p5.1, p5.2 + (x1 : Int).toNat * 1)) rfl rfl hr11) ?_
    refine GL.val trivial rfl (OV.assign (v := .int .u8 x10) rfl) ?_
    refine GL.nil ?_
    obtain ⟨Hs12, hle13, h⟩ := h
    refine GC.tail (Hs := Hs12) 15 (by kernel_rfl) hle13 (by kernel_rfl) ?_
    refine GT.take 0 rfl (by kernel_rfl) (by kernel_rfl) (by kernel_rfl) rfl (fun _ _ _ h => by obtain ⟨_, _, _, h, _⟩ := h; cases h) trivial rfl (OV.move (v := pv p_p) rfl) ?_
    refine GT.take 1 rfl (by kernel_rfl) (by kernel_rfl) (by kernel_rfl) rfl (fun _ _ _ h => by obtain ⟨_, _, _, h, _⟩ := h; cases h) trivial rfl (OV.move (v := pv p_p) rfl) ?_
    obtain ⟨p14, hp15, h⟩ := h
    refine GT.take 2 rfl (by kernel_rfl) (by kernel_rfl) (by kernel_rfl) rfl (fun _ _ _ h => by obtain ⟨_, _, _, h, _⟩ := h; cases h) trivial rfl (OV.nilCheck (q := p_p) rfl hp15) ?_
    refine GT.take 3 rfl (by kernel_rfl) (by kernel_rfl) (by kernel_rfl) rfl (fun _ _ _ h => by obtain ⟨_, _, _, h, _⟩ := h; cases h) trivial rfl (OV.fieldAddr (p := p14) rfl rfl) ?_
    obtain ⟨x16, hr17, h⟩ := h
    refine GT.take 4 rfl (by kernel_rfl) (by kernel_rfl) (by kernel_rfl) rfl (fun _ _ _ h => by obtain ⟨_, _, _, h, _⟩ := h; cases h) trivial rfl (OV.load (p := (p14.1, p14.2 + 0)) rfl rfl hr17) ?_
    refine GT.take 5 rfl (by kernel_rfl) (by kernel_rfl) (by kernel_rfl) rfl (fun _ _ _ h => by obtain ⟨_, _, _, h, _⟩ := h; cases h) trivial rfl (OV.move (v := .int .u8 x10) rfl) ?_
    refine GT.take 6 rfl (by kernel_rfl) (by kernel_rfl) (by kernel_rfl) rfl (fun _ _ _ h => by obtain ⟨_, _, _, h, _⟩ := h; cases h) trivial rfl (OV.move (v := pv p_p) rfl) ?_
    obtain ⟨p18, hp19, h⟩ := h
    refine GT.take 7 rfl (by kernel_rfl) (by kernel_rfl) (by kernel_rfl) rfl (fun _ _ _ h => by obtain ⟨_, _, _, h, _⟩ := h; cases h) trivial rfl (OV.nilCheck (q := p_p) rfl hp19) ?_
    refine GT.take 8 rfl (by kernel_rfl) (by kernel_rfl) (by kernel_rfl) rfl (fun _ _ _ h => by obtain ⟨_, _, _, h, _⟩ := h; cases h) trivial rfl (OV.fieldAddr (p := p18) rfl rfl) ?_
    obtain ⟨x20, hr21, h⟩ := h
    refine GT.take 9 rfl (by kernel_rfl) (by kernel_rfl) (by kernel_rfl) rfl (fun _ _ _ h => by obtain ⟨_, _, _, h, _⟩ := h; cases h) trivial rfl (OV.load (p := (p18.1, p18.2 + 1)) rfl rfl hr21) ?_
    refine GT.take 10 rfl (by kernel_rfl) (by kernel_rfl) (by kernel_rfl) rfl (fun _ _ _ h => by obtain ⟨_, _, _, h, _⟩ := h; cases h) trivial rfl (OV.ibin (v := .int .u8 (bXor .u8 x10 x20)) rfl rfl rfl) ?_
    refine GT.eff 11 rfl (by kernel_rfl) rfl ?_
    refine GL.buildSlice (cs := [.int .u8 (bXor .u8 x10 x20)]) h trivial rfl (vs := [(0, .int .u8 (bXor .u8 x10 x20))]) rfl ⟨5, fun _ => by kernel_rfl⟩ ?_
    intro b23 H24 h
    obtain ⟨hle22, h⟩ := h
    refine GT.back hle22 ?_
    refine GT.eff 12 rfl (by kernel_rfl) rfl ?_
    refine GL.appendS (s := x16) (s2 := (Sl.of (some (b23, 0)) 1 1)) (zc := [.int .u8 0]) (bytes := 1) h trivial rfl rfl rfl ⟨⟨_, _, _, rfl, rfl, rfl, rfl, rfl, rfl⟩⟩ rfl ?_
    intro r26 H27 h
    obtain ⟨hle25, h⟩ := h
    refine GT.back hle25 ?_
    obtain ⟨p28, hp29, h⟩ := h
    refine GT.take 13 rfl (by kernel_rfl) (by kernel_rfl) (by kernel_rfl) rfl (fun _ _ _ h => by obtain ⟨_, _, _, h, _⟩ := h; cases h) trivial rfl (OV.nilCheck (q := p_p) rfl hp29) ?_
    refine GT.take 14 rfl (by kernel_rfl) (by kernel_rfl) (by kernel_rfl) rfl (fun _ _ _ h => by obtain ⟨_, _, _, h, _⟩ := h; cases h) trivial rfl (OV.fieldAddr (p := p28) rfl rfl) ?_
    refine GT.done (by kernel_rfl) ?_
    show GL _ _ _ _ _ [_] _ _
    refine GL.store (p := (p28.1, p28.2 + 0)) (v := slv r26) h trivial rfl rfl rfl rfl ?_
    intro H30 h
    refine GL.nil_to (fun _ _ h => h) ?_
    refine GC.region ?_
    refine GL.val trivial rfl (OV.ibin (v := .int .i64 (w .i64 (x1 + 1))) rfl rfl rfl) ?_
    refine GL.val trivial rfl (OV.move (v := .int .i64 (w .i64 (x1 + 1))) rfl) ?_
    exact GL.jump (fun _ _ h => h) (w .i64 (x1 + 1)) h ⟨rfl, rfl, rfl, rfl, trivial⟩
  · replace h := And.right h hc4
    exact GC.exit_ends (fun _ _ hf hs => post_tmp0 rfl hf hs ⟨rfl, h⟩)

def sh_value_Check (C : Ctx) (p_v : T_api_Value) (K : Int → Heap → Prop) (H : Heap) : Prop :=
  nw (T_api_Value.c p_v) (fun b1 H2 =>
 ldT H2 T_api_Value.c (b1, 0) fun x3 =>
 c_value_depth C x3 65 (fun r5 H6 =>
 ift (decide ((r5 : Int) > 64))
 (K 65 H6)
 (ldT H6 T_api_Value.c (b1, 0) fun x8 =>
 c_value_item_look C x8 (fun r10 r11 H12 =>
 ift (!r10)
 (K 4 H12)
 (ift (!r11)
 (K 40 H12)
 (K 0 H12))) H6)) H2) H

theorem ad_value_Check (C : Ctx) (p_v : T_api_Value) (K : Int → Heap → Prop) (H : Heap) (h : sh_value_Check C p_v K H) : c_value_Check C p_v K H := by
  refine Spec.enter Tryd.func51 rfl Tryd.ntmps51 rfl ?_
  refine GC.sub [(0, .agg (T_api_Value.c p_v).toArray)] ⟨rfl, trivial⟩ ?_
  refine GC.seq ?_
  refine GC.region ?_
  refine GL.box (v := .agg (T_api_Value.c p_v).toArray) (cs := T_api_Value.c p_v) h trivial rfl rfl rfl ?_
  intro b1 H2 h
  refine GL.val trivial rfl (OV.assign (v := .int .i64 0) rfl) ?_
  refine GL.nil ?_
  refine GC.seq ?_
  refine GC.seq ?_
  refine GC.region ?_
  obtain ⟨x3, hr4, h⟩ := h
  refine GL.val trivial rfl (OV.loadT (p := (b1, 0)) (cs := T_api_Value.c x3) rfl rfl rfl hr4) ?_
  refine GL.call h trivial rfl ok_value_depth (vs := [.agg (T_api_Value.c x3).toArray, .int .i64 65]) rfl ?_
  rintro _ H6 ⟨r5, rfl, h⟩
  refine GL.val trivial rfl (OV.ibin (v := .bool (decide ((r5 : Int) > 64))) rfl rfl rfl) ?_
  refine GL.nil ?_
  refine GC.cond (b := decide ((r5 : Int) > 64)) rfl (fun hc7 => ?_) (fun hc7 => ?_)
  · replace h := And.left h hc7
    refine GC.seq ?_
    refine GC.region ?_
    refine GL.val trivial rfl (OV.assign (v := .int .i64 65) rfl) ?_
    refine GL.nil ?_
    exact GC.ret (fun _ _ hf hs => post_tmp1 rfl rfl hf hs ⟨65, rfl, h⟩)
  · replace h := And.right h hc7
    refine GC.skip ?_
    refine GC.seq ?_
    refine GC.seq ?_
    refine GC.region ?_
    obtain ⟨x8, hr9, h⟩ := h
    refine GL.val trivial rfl (OV.loadT (p := (b1, 0)) (cs := T_api_Value.c x8) rfl rfl rfl hr9) ?_
    refine GL.call h trivial rfl ok_value_item_look (vs := [.agg (T_api_Value.c x8).toArray]) rfl ?_
    rintro _ H12 ⟨r10, r11, rfl, h⟩
    refine GL.val trivial rfl (OV.move (v := .tuple #[.bool r10, .bool r11]) rfl) ?_
    refine GL.val trivial rfl (OV.extract (v := .bool r10) rfl rfl) ?_
    refine GL.val trivial rfl (OV.extract (v := .bool r11) rfl rfl) ?_
    refine GL.val trivial rfl (OV.assign (v := .bool r10) rfl) ?_
    refine GL.val trivial rfl (OV.assign (v := .bool r11) rfl) ?_
    refine GL.nil ?_
    refine GC.block ?_
    refine GC.seq ?_
    refine GC.region ?_
    refine GL.val trivial rfl (OV.move (v := .bool r10) rfl) ?_
    refine GL.val trivial rfl (OV.not rfl) ?_
    refine GL.val trivial rfl (OV.assign (v := .bool (!r10)) rfl) ?_
    refine GL.nil ?_
    refine GC.cond (b := !r10) rfl (fun hc13 => ?_) (fun hc13 => ?_)
    · replace h := And.left h hc13
      refine GC.seq ?_
      refine GC.region ?_
      refine GL.val trivial rfl (OV.assign (v := .int .i64 4) rfl) ?_
      refine GL.nil ?_
      exact GC.ret (fun _ _ hf hs => post_tmp1 rfl rfl hf hs ⟨4, rfl, h⟩)
    · replace h := And.right h hc13
      refine GC.seq ?_
      refine GC.region ?_
      refine GL.val trivial rfl (OV.move (v := .bool r11) rfl) ?_
      refine GL.val trivial rfl (OV.not rfl) ?_
      refine GL.val trivial rfl (OV.assign (v := .bool (!r11)) rfl) ?_
      refine GL.nil ?_
      refine GC.cond (b := !r11) rfl (fun hc14 => ?_) (fun hc14 => ?_)
      · replace h := And.left h hc14
        refine GC.seq ?_
        refine GC.region ?_
        refine GL.val trivial rfl (OV.assign (v := .int .i64 40) rfl) ?_
        refine GL.nil ?_
        exact GC.ret (fun _ _ hf hs => post_tmp1 rfl rfl hf hs ⟨40, rfl, h⟩)
      · replace h := And.right h hc14
        refine GC.skip_to (fun _ _ h => h) ?_
        refine GC.seq ?_
        refine GC.region ?_
        refine GL.val trivial rfl (OV.assign (v := .int .i64 0) rfl) ?_
        refine GL.nil ?_
        exact GC.ret (fun _ _ hf hs => post_tmp1 rfl rfl hf hs ⟨0, rfl, h⟩)

def sh_code_pen_value (C : Ctx) (p_p : Option (Nat × Nat)) (p_v : T_api_Value) (K : Heap → Prop) (H : Heap) : Prop :=
  nw (T_api_Value.c p_v) (fun b1 H2 =>
 nw ((List.replicate 7 (.nilFunc : Value))) (fun b3 H4 =>
 stC 7 (b3, 0) [.nilFunc, .func (.func 72) (List.toArray []) (List.toArray []), .func (.func 73) (List.toArray []) (List.toArray []), .func (.func 74) (List.toArray []) (List.toArray []), .func (.func 75) (List.toArray []) (List.toArray []), .func (.func 76) (List.toArray []) (List.toArray []), .func (.func 77) (List.toArray []) (List.toArray [])] (fun H5 =>
 ldI H5 .u8 ((b1, 0).1, (b1, 0).2 + 0) fun x8 =>
 nw ([.int .u8 x8]) (fun b10 H11 =>
 c_code_pen_put C p_p (Sl.of (some (b10, 0)) 1 1) (fun H12 =>
 dr H12 fun Hs13 =>
 ldI Hs13 .u8 ((b1, 0).1, (b1, 0).2 + 0) fun x15 =>
 ixr (b3, 0) 7 x15 <|
 ldV Hs13 ((b3, 0).1, (b3, 0).2 + (x15 : Int).toNat * 1) fun x19 =>
 ldT Hs13 T_api_Value.c (b1, 0) fun x21 =>
 callU Tryd.prog C x19 [pv p_p, .agg (T_api_Value.c x21).toArray] H12 (fun v H24 => v = .tuple #[] ∧
 Heap.le Hs13 H24 ∧
 K H24)) H11) H5) H4) H2) H

theorem ad_code_pen_value (C : Ctx) (p_p : Option (Nat × Nat)) (p_v : T_api_Value) (K : Heap → Prop) (H : Heap) (h : sh_code_pen_value C p_p p_v K H) : c_code_pen_value C p_p p_v K H := by
  refine Spec.enter Tryd.func52 rfl Tryd.ntmps52 rfl ?_
  refine GC.sub [(0, pv p_p), (1, .agg (T_api_Value.c p_v).toArray)] ⟨rfl, rfl, trivial⟩ ?_
  refine GC.seq ?_
  refine GC.region ?_
  refine GL.box (v := .agg (T_api_Value.c p_v).toArray) (cs := T_api_Value.c p_v) h trivial rfl rfl rfl ?_
  intro b1 H2 h
  refine GL.nil ?_
  refine GC.seq ?_
  refine GC.region ?_
  refine GL.val trivial rfl (OV.build (vs := [(1, .func (.func 72) (List.toArray []) (List.toArray [])), (2, .func (.func 73) (List.toArray []) (List.toArray [])), (3, .func (.func 74) (List.toArray []) (List.toArray [])), (4, .func (.func 75) (List.toArray []) (List.toArray [])), (5, .func (.func 76) (List.toArray []) (List.toArray [])), (6, .func (.func 77) (List.toArray []) (List.toArray []))]) (v := .agg (List.toArray [.nilFunc, .func (.func 72) (List.toArray []) (List.toArray []), .func (.func 73) (List.toArray []) (List.toArray []), .func (.func 74) (List.toArray []) (List.toArray []), .func (.func 75) (List.toArray []) (List.toArray []), .func (.func 76) (List.toArray []) (List.toArray []), .func (.func 77) (List.toArray []) (List.toArray [])])) rfl (fun _ => by kernel_rfl)) ?_
  refine GL.alloc (cs := (List.replicate 7 (.nilFunc : Value))) h trivial rfl rfl rfl ?_
  intro b3 H4 h
  obtain ⟨hl6, h17, h⟩ := h
  refine GL.storeT (p := (b3, 0)) (vs := [.nilFunc, .func (.func 72) (List.toArray []) (List.toArray []), .func (.func 73) (List.toArray []) (List.toArray []), .func (.func 74) (List.toArray []) (List.toArray []), .func (.func 75) (List.toArray []) (List.toArray []), .func (.func 76) (List.toArray []) (List.toArray []), .func (.func 77) (List.toArray []) (List.toArray [])]) h trivial rfl rfl h17 (by rw [hl6]; rfl) ?_
  intro H5 h
  refine GL.nil ?_
  refine GC.seq ?_
  refine GC.region ?_
  refine GL.val trivial rfl (OV.move (v := pv p_p) rfl) ?_
  refine GL.val trivial rfl (OV.fieldAddr (p := (b1, 0)) rfl rfl) ?_
  obtain ⟨x8, hr9, h⟩ := h
  refine GL.val trivial rfl (OV.load (p := ((b1, 0).1, (b1, 0).2 + 0)) rfl rfl hr9) ?_
  refine GL.buildSlice (cs := [.int .u8 x8]) h trivial rfl (vs := [(0, .int .u8 x8)]) rfl ⟨5, fun _ => by kernel_rfl⟩ ?_
  intro b10 H11 h
  refine GL.call h trivial rfl ok_code_pen_put (vs := [pv p_p, slv (Sl.of (some (b10, 0)) 1 1)]) rfl ?_
  rintro _ H12 ⟨rfl, h⟩
  refine GL.nil ?_
  obtain ⟨Hs13, hle14, h⟩ := h
  refine GC.any (Hs := Hs13) (by kernel_rfl) hle14 ?_
  refine GA.take 0 rfl (by kernel_rfl) (by kernel_rfl) (by kernel_rfl) (fun _ _ _ h => by obtain ⟨_, _, _, h, _⟩ := h; cases h) trivial rfl (OV.fieldAddr (p := (b1, 0)) rfl rfl) ?_
  obtain ⟨x15, hr16, h⟩ := h
  refine GA.take 1 rfl (by kernel_rfl) (by kernel_rfl) (by kernel_rfl) (fun _ _ _ h => by obtain ⟨_, _, _, h, _⟩ := h; cases h) trivial rfl (OV.load (p := ((b1, 0).1, (b1, 0).2 + 0)) rfl rfl hr16) ?_
  obtain ⟨ha17, hb18, h⟩ := h
  refine GA.take 2 rfl (by kernel_rfl) (by kernel_rfl) (by kernel_rfl) (fun _ _ _ h => by obtain ⟨_, _, _, h, _⟩ := h; cases h) trivial rfl (OV.indexAddrA (p := (b3, 0)) rfl rfl rfl rfl ha17 hb18) ?_
  obtain ⟨x19, hr20, h⟩ := h
  refine GA.take 3 rfl (by kernel_rfl) (by kernel_rfl) (by kernel_rfl) (fun _ _ _ h => by obtain ⟨_, _, _, h, _⟩ := h; cases h) trivial rfl (OV.load (p := ((b3, 0).1, (b3, 0).2 + (x15 : Int).toNat * 1)) rfl rfl hr20) ?_
  refine GA.take 4 rfl (by kernel_rfl) (by kernel_rfl) (by kernel_rfl) (fun _ _ _ h => by obtain ⟨_, _, _, h, _⟩ := h; cases h) trivial rfl (OV.move (v := pv p_p) rfl) ?_
  obtain ⟨x21, hr22, h⟩ := h
  refine GA.take 5 rfl (by kernel_rfl) (by kernel_rfl) (by kernel_rfl) (fun _ _ _ h => by obtain ⟨_, _, _, h, _⟩ := h; cases h) trivial rfl (OV.loadT (p := (b1, 0)) (cs := T_api_Value.c x21) rfl rfl rfl hr22) ?_
  refine GA.eff 6 rfl (by kernel_rfl) ?_
  refine GL.callU (xv := x19) (vs := [pv p_p, .agg (T_api_Value.c x21).toArray]) h trivial rfl rfl rfl ?_
  rintro _ H24 ⟨rfl, h⟩
  obtain ⟨hle23, h⟩ := h
  refine GA.back hle23 ?_
  refine GA.done (by kernel_rfl) ?_
  exact GL.ends (fun _ _ hf hs => post_tmp0 rfl hf hs ⟨rfl, h⟩)

def sh_slices_Clone_byte_byte (C : Ctx) (p_s : Sl) (K : Sl → Heap → Prop) (H : Heap) : Prop :=
  ift (Sl.isNil p_s)
 (K Sl.nil H)
 (nw ([]) (fun b2 H3 =>
 apS ([.int .u8 0]) 1 (Sl.of (some (b2, 0)) 0 0) p_s (fun r4 H5 =>
 K r4 H5) H3) H)

theorem ad_slices_Clone_byte_byte (C : Ctx) (p_s : Sl) (K : Sl → Heap → Prop) (H : Heap) (h : sh_slices_Clone_byte_byte C p_s K H) : c_slices_Clone_byte_byte C p_s K H := by
  refine Spec.enter Tryd.func61 rfl Tryd.ntmps61 rfl ?_
  refine GC.sub [(0, slv p_s)] ⟨rfl, trivial⟩ ?_
  refine GC.seq ?_
  refine GC.region ?_
  refine GL.val trivial rfl (OV.assign (v := slv Sl.nil) rfl) ?_
  refine GL.nil ?_
  refine GC.seq ?_
  refine GC.seq ?_
  refine GC.region ?_
  refine GL.val trivial rfl (OV.move (v := slv p_s) rfl) ?_
  refine GL.val trivial rfl (OV.eqlSl (s := p_s) rfl rfl rfl) ?_
  refine GL.nil ?_
  refine GC.cond (b := Sl.isNil p_s) rfl (fun hc1 => ?_) (fun hc1 => ?_)
  · replace h := And.left h hc1
    refine GC.seq ?_
    refine GC.region ?_
    refine GL.val trivial rfl (OV.assign (v := slv Sl.nil) rfl) ?_
    refine GL.nil ?_
    exact GC.ret (fun _ _ hf hs => post_tmp1 rfl rfl hf hs ⟨Sl.nil, rfl, h⟩)
  · replace h := And.right h hc1
    refine GC.skip ?_
    refine GC.seq ?_
    refine GC.region ?_
    refine GL.buildSlice (cs := []) h trivial rfl (vs := []) rfl ⟨5, fun _ => by kernel_rfl⟩ ?_
    intro b2 H3 h
    refine GL.val trivial rfl (OV.move (v := slv p_s) rfl) ?_
    refine GL.appendS (s := (Sl.of (some (b2, 0)) 0 0)) (s2 := p_s) (zc := [.int .u8 0]) (bytes := 1) h trivial rfl rfl rfl ⟨⟨_, _, _, rfl, rfl, rfl, rfl, rfl, rfl⟩⟩ rfl ?_
    intro r4 H5 h
    refine GL.val trivial rfl (OV.assign (v := slv r4) rfl) ?_
    refine GL.nil ?_
    exact GC.ret (fun _ _ hf hs => post_tmp1 rfl rfl hf hs ⟨r4, rfl, h⟩)

def sh_code_Reader_next (C : Ctx) (p_r : Option (Nat × Nat)) (K : Int → Heap → Prop) (H : Heap) : Prop :=
  nck p_r fun p1 =>
 ldL H (p1.1, p1.2 + 0) fun x3 =>
 c_code_Reader_ask C p_r (decide (((Sl.len x3 : Int) : Int) > 0)) (fun r5 H6 =>
 ift (!r5)
 (K 0 H6)
 (nck p_r fun p8 =>
 ldL H6 (p8.1, p8.2 + 0) fun x10 =>
 ixa x10 0 fun p12 =>
 ldI H6 .u8 (p12.1, p12.2 + (0 : Int).toNat * 1) fun x17 =>
 nck p_r fun p19 =>
 ldI H6 .u8 (p19.1, p19.2 + 1) fun x21 =>
 nck p_r fun p23 =>
 ldL H6 (p23.1, p23.2 + 0) fun x25 =>
 slL x25 1 (Sl.len x25 : Int) (Sl.cap x25 : Int) 1 fun t27 =>
 nck p_r fun p33 =>
 st (p33.1, p33.2 + 0) (slv t27) (fun H35 =>
 K (bXor .u8 x17 x21) H35) H6)) H

theorem ad_code_Reader_next (C : Ctx) (p_r : Option (Nat × Nat)) (K : Int → Heap → Prop) (H : Heap) (h : sh_code_Reader_next C p_r K H) : c_code_Reader_next C p_r K H := by
  refine Spec.enter Tryd.func62 rfl Tryd.ntmps62 rfl ?_
  refine GC.sub [(0, pv p_r)] ⟨rfl, trivial⟩ ?_
  refine GC.seq ?_
  refine GC.region ?_
  refine GL.val trivial rfl (OV.assign (v := .int .u8 0) rfl) ?_
  refine GL.nil ?_
  refine GC.seq ?_
  refine GC.seq ?_
  refine GC.region ?_
  refine GL.val trivial rfl (OV.move (v := pv p_r) rfl) ?_
  refine GL.val trivial rfl (OV.move (v := pv p_r) rfl) ?_
  obtain ⟨p1, hp2, h⟩ := h
  refine GL.val trivial rfl (OV.nilCheck (q := p_r) rfl hp2) ?_
  refine GL.val trivial rfl (OV.fieldAddr (p := p1) rfl rfl) ?_
  obtain ⟨x3, hr4, h⟩ := h
  refine GL.val trivial rfl (OV.load (p := (p1.1, p1.2 + 0)) rfl rfl hr4) ?_
  refine GL.val trivial rfl (OV.lenSl (s := x3) rfl rfl) ?_
  refine GL.val trivial rfl (OV.ibin (v := .bool (decide (((Sl.len x3 : Int) : Int) > 0))) rfl rfl rfl) ?_
  refine GL.call h trivial rfl ok_code_Reader_ask (vs := [pv p_r, .bool (decide (((Sl.len x3 : Int) : Int) > 0))]) rfl ?_
  rintro _ H6 ⟨r5, rfl, h⟩
  refine GL.val trivial rfl (OV.not rfl) ?_
  refine GL.nil ?_
  refine GC.cond (b := !r5) rfl (fun hc7 => ?_) (fun hc7 => ?_)
  · replace h := And.left h hc7
    refine GC.seq ?_
    refine GC.region ?_
    refine GL.val trivial rfl (OV.assign (v := .int .u8 0) rfl) ?_
    refine GL.nil ?_
    exact GC.ret (fun _ _ hf hs => post_tmp1 rfl rfl hf hs ⟨0, rfl, h⟩)
  · replace h := And.right h hc7
    refine GC.skip ?_
    refine GC.seq ?_
    refine GC.draw (by kernel_rfl) (by kernel_rfl) ?_
    refine GQ.val trivial rfl (OV.move (v := pv p_r) rfl) ?_
    obtain ⟨p8, hp9, h⟩ := h
    refine GQ.val trivial rfl (OV.nilCheck (q := p_r) rfl hp9) ?_
    refine GQ.val trivial rfl (OV.fieldAddr (p := p8) rfl rfl) ?_
    obtain ⟨x10, hr11, h⟩ := h
    refine GQ.val trivial rfl (OV.load (p := (p8.1, p8.2 + 0)) rfl rfl hr11) ?_
    obtain ⟨p12, ha13, hb14, hc15, hd16, h⟩ := h
    refine GQ.val trivial rfl (OV.indexAddr (s := x10) rfl rfl rfl rfl ha13 hb14 hc15 hd16) ?_
    obtain ⟨x17, hr18, h⟩ := h
    refine GQ.val trivial rfl (OV.load (p := (p12.1, p12.2 + (0 : Int).toNat * 1)) rfl rfl hr18) ?_
    refine GQ.val trivial rfl (OV.move (v := pv p_r) rfl) ?_
    obtain ⟨p19, hp20, h⟩ := h
    refine GQ.val trivial rfl (OV.nilCheck (q := p_r) rfl hp20) ?_
    refine GQ.val trivial rfl (OV.fieldAddr (p := p19) rfl rfl) ?_
    obtain ⟨x21, hr22, h⟩ := h
    refine GQ.val trivial rfl (OV.load (p := (p19.1, p19.2 + 1)) rfl rfl hr22) ?_
    refine GQ.val trivial rfl (OV.ibin (v := .int .u8 (bXor .u8 x17 x21)) rfl rfl rfl) ?_
    refine GQ.val trivial rfl (OV.assign (v := .int .u8 (bXor .u8 x17 x21)) rfl) ?_
    refine GQ.nil ?_
    refine GL.nil ?_
    refine GC.seq ?_
    refine GC.region ?_
    refine GL.val trivial rfl (OV.move (v := pv p_r) rfl) ?_
    refine GL.val trivial rfl (OV.move (v := pv p_r) rfl) ?_
    obtain ⟨p23, hp24, h⟩ := h
    refine GL.val trivial rfl (OV.nilCheck (q := p_r) rfl hp24) ?_
    refine GL.val trivial rfl (OV.fieldAddr (p := p23) rfl rfl) ?_
    obtain ⟨x25, hr26, h⟩ := h
    refine GL.val trivial rfl (OV.load (p := (p23.1, p23.2 + 0)) rfl rfl hr26) ?_
    obtain ⟨h28, h29, h30, h31, t27, h32, h⟩ := h
    refine GL.val trivial rfl (OV.sliceSl (s := x25) h28 h29 h30 h31 h32 rfl rfl rfl rfl rfl rfl rfl (fun h => by first | rfl | cases h) rfl rfl) ?_
    obtain ⟨p33, hp34, h⟩ := h
    refine GL.val trivial rfl (OV.nilCheck (q := p_r) rfl hp34) ?_
    refine GL.val trivial rfl (OV.fieldAddr (p := p33) rfl rfl) ?_
    refine GL.store (p := (p33.1, p33.2 + 0)) (v := slv t27) h trivial rfl rfl rfl rfl ?_
    intro H35 h
    refine GL.nil ?_
    refine GC.seq ?_
    refine GC.region ?_
    refine GL.val trivial rfl (OV.move (v := .int .u8 (bXor .u8 x17 x21)) rfl) ?_
    refine GL.val trivial rfl (OV.assign (v := .int .u8 (bXor .u8 x17 x21)) rfl) ?_
    refine GL.nil ?_
    exact GC.ret (fun _ _ hf hs => post_tmp1 rfl rfl hf hs ⟨(bXor .u8 x17 x21), rfl, h⟩)

def sh_code_Reader_flip (C : Ctx) (p_r : Option (Nat × Nat)) (p_is : Bool) (K : Heap → Prop) (H : Heap) : Prop :=
  ift p_is
 (nck p_r fun p2 =>
 ldI H .u8 (p2.1, p2.2 + 1) fun x4 =>
 nck p_r fun p6 =>
 st (p6.1, p6.2 + 1) (.int .u8 (bXor .u8 x4 255)) (fun H8 =>
 K H8) H)
 (K H)

theorem ad_code_Reader_flip (C : Ctx) (p_r : Option (Nat × Nat)) (p_is : Bool) (K : Heap → Prop) (H : Heap) (h : sh_code_Reader_flip C p_r p_is K H) : c_code_Reader_flip C p_r p_is K H := by
  refine Spec.enter Tryd.func63 rfl Tryd.ntmps63 rfl ?_
  refine GC.sub [(0, pv p_r), (1, .bool p_is)] ⟨rfl, rfl, trivial⟩ ?_
  refine GC.seq ?_
  refine GC.region ?_
  refine GL.val trivial rfl (OV.move (v := .bool p_is) rfl) ?_
  refine GL.nil ?_
  refine GC.cond (b := p_is) rfl (fun hc1 => ?_) (fun hc1 => ?_)
  · replace h := And.left h hc1
    refine GC.region ?_
    refine GL.val trivial rfl (OV.move (v := pv p_r) rfl) ?_
    obtain ⟨p2, hp3, h⟩ := h
    refine GL.val trivial rfl (OV.nilCheck (q := p_r) rfl hp3) ?_
    refine GL.val trivial rfl (OV.fieldAddr (p := p2) rfl rfl) ?_
    obtain ⟨x4, hr5, h⟩ := h
    refine GL.val trivial rfl (OV.load (p := (p2.1, p2.2 + 1)) rfl rfl hr5) ?_
    refine GL.val trivial rfl (OV.ibin (v := .int .u8 (bXor .u8 x4 255)) rfl rfl rfl) ?_
    obtain ⟨p6, hp7, h⟩ := h
    refine GL.val trivial rfl (OV.nilCheck (q := p_r) rfl hp7) ?_
    refine GL.val trivial rfl (OV.fieldAddr (p := p6) rfl rfl) ?_
    refine GL.store (p := (p6.1, p6.2 + 1)) (v := .int .u8 (bXor .u8 x4 255)) h trivial rfl rfl rfl rfl ?_
    intro H8 h
    exact GL.ends (fun _ _ hf hs => post_tmp0 rfl hf hs ⟨rfl, h⟩)
  · replace h := And.right h hc1
    exact GC.ends (fun _ _ hf hs => post_tmp0 rfl hf hs ⟨rfl, h⟩)

def sh_code_Reader_number (C : Ctx) (p_r : Option (Nat × Nat)) (p_k : Int) (p_most : Int) (K : Int → Heap → Prop) (H : Heap) : Prop :=
  c_code_Reader_ask C p_r ((decide ((p_k : Int) ≥ 0)) && (decide ((p_k : Int) ≤ p_most))) (fun r2 H3 =>
 ift (!r2)
 (K 0 H3)
 (lp (α := Int × Int) (0, 0) H3 (fun x5 J6 H7 =>
 ift (decide ((x5.2 : Int) < p_k))
 (c_code_Reader_next C p_r (fun r9 H10 =>
 c_code_Reader_ask C p_r ((decide ((x5.2 : Int) > 0)) || ((r9 : Int) != 0)) (fun r12 H13 =>
 J6 ((bOr .u64 (sShl .u64 x5.1 8) (w .u64 r9)), (w .i64 (x5.2 + 1))) H13) H10) H7)
 (K x5.1 H7)))) H

theorem ad_code_Reader_number (C : Ctx) (p_r : Option (Nat × Nat)) (p_k : Int) (p_most : Int) (K : Int → Heap → Prop) (H : Heap) (h : sh_code_Reader_number C p_r p_k p_most K H) : c_code_Reader_number C p_r p_k p_most K H := by
  refine Spec.enter Tryd.func64 rfl Tryd.ntmps64 rfl ?_
  refine GC.sub [(0, pv p_r), (1, .int .i64 p_k), (2, .int .i64 p_most)] ⟨rfl, rfl, rfl, trivial⟩ ?_
  refine GC.seq ?_
  refine GC.region ?_
  refine GL.val trivial rfl (OV.assign (v := .int .u64 0) rfl) ?_
  refine GL.nil ?_
  refine GC.seq ?_
  refine GC.region ?_
  refine GL.val trivial rfl (OV.assign (v := .int .u64 0) rfl) ?_
  refine GL.nil ?_
  refine GC.seq ?_
  refine GC.seq ?_
  refine GC.region ?_
  refine GL.val trivial rfl (OV.move (v := pv p_r) rfl) ?_
  refine GL.val trivial rfl (OV.move (v := .int .i64 p_k) rfl) ?_
  refine GL.val trivial rfl (OV.ibin (v := .bool (decide ((p_k : Int) ≥ 0))) rfl rfl rfl) ?_
  refine GL.val trivial rfl (OV.move (v := .bool (decide ((p_k : Int) ≥ 0))) rfl) ?_
  refine GL.cut0 4 [(17, .bool ((decide ((p_k : Int) ≥ 0)) && (decide ((p_k : Int) ≤ p_most)))), (0, pv p_r), (1, .int .i64 p_k), (7, .int .u64 0), (10, pv p_r)] ?_ ?_
  · rcases Bool.eq_false_or_eq_true (decide ((p_k : Int) ≥ 0)) with hc1 | hc1
    · skip
      refine GL.val ⟨_, _, rfl, rfl, hc1⟩ rfl (OV.move (v := .int .i64 p_k) rfl) ?_
      refine GL.val ⟨_, _, rfl, rfl, hc1⟩ rfl (OV.move (v := .int .i64 p_most) rfl) ?_
      refine GL.val ⟨_, _, rfl, rfl, hc1⟩ rfl (OV.ibin (v := .bool (decide ((p_k : Int) ≤ p_most))) rfl rfl rfl) ?_
      refine GL.val trivial rfl (OV.pickT (b := decide ((p_k : Int) ≥ 0)) (v := .bool (decide ((p_k : Int) ≤ p_most))) rfl hc1 rfl) ?_
      exact GL.jump0 (fun _ _ h => h) () rfl ⟨(by rw [hc1]; rfl), rfl, rfl, rfl, rfl, trivial⟩
    · skip
      refine GL.skip ⟨_, rfl, .inl ⟨_, rfl, hc1⟩⟩ rfl ?_
      refine GL.skip ⟨_, rfl, .inl ⟨_, rfl, hc1⟩⟩ rfl ?_
      refine GL.skip ⟨_, rfl, .inl ⟨_, rfl, hc1⟩⟩ rfl ?_
      refine GL.val trivial rfl (OV.pickF (b := decide ((p_k : Int) ≥ 0)) (v := .bool false) rfl hc1 rfl) ?_
      exact GL.jump0 (fun _ _ h => h) () rfl ⟨(by rw [hc1]; rfl), rfl, rfl, rfl, rfl, trivial⟩
  refine GL.call h trivial rfl ok_code_Reader_ask (vs := [pv p_r, .bool ((decide ((p_k : Int) ≥ 0)) && (decide ((p_k : Int) ≤ p_most)))]) rfl ?_
  rintro _ H3 ⟨r2, rfl, h⟩
  refine GL.val trivial rfl (OV.not rfl) ?_
  refine GL.nil ?_
  refine GC.cond (b := !r2) rfl (fun hc4 => ?_) (fun hc4 => ?_)
  · replace h := And.left h hc4
    refine GC.seq ?_
    refine GC.region ?_
    refine GL.val trivial rfl (OV.assign (v := .int .u64 0) rfl) ?_
    refine GL.nil ?_
    exact GC.ret (fun _ _ hf hs => post_tmp1 rfl rfl hf hs ⟨0, rfl, h⟩)
  · replace h := And.right h hc4
    refine GC.skip ?_
    refine GC.seq ?_
    refine GC.seq ?_
    refine GC.region ?_
    refine GL.val trivial rfl (OV.move (v := .int .i64 p_k) rfl) ?_
    refine GL.val trivial rfl (OV.move (v := .int .i64 0) rfl) ?_
    refine GL.nil ?_
    refine GC.block ?_
    refine GC.loop (α := Int × Int) h (fun x5 => [(7, .int .u64 x5.1), (21, .int .i64 x5.2), (0, pv p_r), (20, .int .i64 p_k)]) ⟨rfl, rfl, rfl, rfl, trivial⟩ ?_
    intro x5 H7 J6 h
    refine GC.seq ?_
    refine GC.region ?_
    refine GL.val trivial rfl (OV.ibin (v := .bool (decide ((x5.2 : Int) < p_k))) rfl rfl rfl) ?_
    refine GL.nil ?_
    refine GC.seq ?_
    refine GC.cond (b := decide ((x5.2 : Int) < p_k)) rfl (fun hc8 => ?_) (fun hc8 => ?_)
    · replace h := And.left h hc8
      refine GC.skip ?_
      refine GC.seq ?_
      refine GC.block ?_
      refine GC.seq ?_
      refine GC.region ?_
      refine GL.val trivial rfl (OV.move (v := .int .i64 x5.2) rfl) ?_
      refine GL.val trivial rfl (OV.assign (v := .int .i64 x5.2) rfl) ?_
      refine GL.nil ?_
      refine GC.seq ?_
      refine GC.region ?_
      refine GL.val trivial rfl (OV.move (v := pv p_r) rfl) ?_
      refine GL.call h trivial rfl ok_code_Reader_next (vs := [pv p_r]) rfl ?_
      rintro _ H10 ⟨r9, rfl, h⟩
      refine GL.val trivial rfl (OV.assign (v := .int .u8 r9) rfl) ?_
      refine GL.nil ?_
      refine GC.seq ?_
      refine GC.region ?_
      refine GL.val trivial rfl (OV.move (v := pv p_r) rfl) ?_
      refine GL.val trivial rfl (OV.move (v := .int .i64 x5.2) rfl) ?_
      refine GL.val trivial rfl (OV.ibin (v := .bool (decide ((x5.2 : Int) > 0))) rfl rfl rfl) ?_
      refine GL.val trivial rfl (OV.move (v := .bool (decide ((x5.2 : Int) > 0))) rfl) ?_
      refine GL.cut0 3 [(32, .bool ((decide ((x5.2 : Int) > 0)) || ((r9 : Int) != 0))), (0, pv p_r), (7, .int .u64 x5.1), (9, .int .u8 r9), (20, .int .i64 p_k), (21, .int .i64 x5.2), (26, pv p_r)] ?_ ?_
      · rcases Bool.eq_false_or_eq_true (decide ((x5.2 : Int) > 0)) with hc11 | hc11
        · skip
          refine GL.skip ⟨_, rfl, .inl ⟨_, rfl, hc11⟩⟩ rfl ?_
          refine GL.skip ⟨_, rfl, .inl ⟨_, rfl, hc11⟩⟩ rfl ?_
          refine GL.val trivial rfl (OV.pickT (b := decide ((x5.2 : Int) > 0)) (v := .bool true) rfl hc11 rfl) ?_
          exact GL.jump0 (fun _ _ h => h) () rfl ⟨(by rw [hc11]; rfl), rfl, rfl, rfl, rfl, rfl, rfl, trivial⟩
        · skip
          refine GL.val ⟨_, _, rfl, rfl, hc11⟩ rfl (OV.move (v := .int .u8 r9) rfl) ?_
          refine GL.val ⟨_, _, rfl, rfl, hc11⟩ rfl (OV.ibin (v := .bool ((r9 : Int) != 0)) rfl rfl rfl) ?_
          refine GL.val trivial rfl (OV.pickF (b := decide ((x5.2 : Int) > 0)) (v := .bool ((r9 : Int) != 0)) rfl hc11 rfl) ?_
          exact GL.jump0 (fun _ _ h => h) () rfl ⟨(by rw [hc11]; rfl), rfl, rfl, rfl, rfl, rfl, rfl, trivial⟩
      refine GL.call h trivial rfl ok_code_Reader_ask (vs := [pv p_r, .bool ((decide ((x5.2 : Int) > 0)) || ((r9 : Int) != 0))]) rfl ?_
      rintro _ H13 ⟨r12, rfl, h⟩
      refine GL.nil ?_
      refine GC.region ?_
      refine GL.val trivial rfl (OV.move (v := .int .u64 x5.1) rfl) ?_
      refine GL.val trivial rfl (OV.shl rfl rfl (by decide)) ?_
      refine GL.val trivial rfl (OV.move (v := .int .u8 r9) rfl) ?_
      refine GL.val trivial rfl (OV.convInt rfl rfl rfl) ?_
      refine GL.val trivial rfl (OV.ibin (v := .int .u64 (bOr .u64 (sShl .u64 x5.1 8) (w .u64 r9))) rfl rfl rfl) ?_
      refine GL.val trivial rfl (OV.assign (v := .int .u64 (bOr .u64 (sShl .u64 x5.1 8) (w .u64 r9))) rfl) ?_
      refine GL.nil_to (fun _ _ h => h) ?_
      refine GC.region ?_
      refine GL.val trivial rfl (OV.ibin (v := .int .i64 (w .i64 (x5.2 + 1))) rfl rfl rfl) ?_
      refine GL.val trivial rfl (OV.move (v := .int .i64 (w .i64 (x5.2 + 1))) rfl) ?_
      exact GL.jump (fun _ _ h => h) ((bOr .u64 (sShl .u64 x5.1 8) (w .u64 r9)), (w .i64 (x5.2 + 1))) h ⟨rfl, rfl, rfl, rfl, trivial⟩
    · replace h := And.right h hc8
      refine GC.exit_to (fun _ _ h => h) ?_
      refine GC.seq ?_
      refine GC.region ?_
      refine GL.val trivial rfl (OV.move (v := .int .u64 x5.1) rfl) ?_
      refine GL.val trivial rfl (OV.assign (v := .int .u64 x5.1) rfl) ?_
      refine GL.nil ?_
      exact GC.ret (fun _ _ hf hs => post_tmp1 rfl rfl hf hs ⟨x5.1, rfl, h⟩)

def sh_code_Reader_ask (C : Ctx) (p_r : Option (Nat × Nat)) (p_ok : Bool) (K : Bool → Heap → Prop) (H : Heap) : Prop :=
  jn (α := Unit) (fun x2 H3 =>
 nck p_r fun p12 =>
 ldB H3 (p12.1, p12.2 + 2) fun x14 =>
 K (!x14) H3)
 (fun J1 => ift (!p_ok)
 (nck p_r fun p6 =>
 st (p6.1, p6.2 + 0) (slv Sl.nil) (fun H8 =>
 nck p_r fun p9 =>
 st (p9.1, p9.2 + 2) (.bool true) (fun H11 =>
 J1 () H11) H8) H)
 (J1 () H))

theorem ad_code_Reader_ask (C : Ctx) (p_r : Option (Nat × Nat)) (p_ok : Bool) (K : Bool → Heap → Prop) (H : Heap) (h : sh_code_Reader_ask C p_r p_ok K H) : c_code_Reader_ask C p_r p_ok K H := by
  refine Spec.enter Tryd.func65 rfl Tryd.ntmps65 rfl ?_
  refine GC.sub [(0, pv p_r), (1, .bool p_ok)] ⟨rfl, rfl, trivial⟩ ?_
  refine GC.seq ?_
  refine GC.region ?_
  refine GL.val trivial rfl (OV.assign (v := .bool false) rfl) ?_
  refine GL.nil ?_
  obtain ⟨J1, h, hR4⟩ := h
  refine GC.join (α := Unit) J1 (fun _ => [(0, pv p_r)]) ?_ ?_
  · skip
    refine GC.seq ?_
    refine GC.region ?_
    refine GL.val trivial rfl (OV.move (v := .bool p_ok) rfl) ?_
    refine GL.val trivial rfl (OV.not rfl) ?_
    refine GL.nil ?_
    refine GC.cond (b := !p_ok) rfl (fun hc5 => ?_) (fun hc5 => ?_)
    · replace h := And.left h hc5
      refine GC.region ?_
      refine GL.val trivial rfl (OV.move (v := pv p_r) rfl) ?_
      refine GL.val trivial rfl (OV.move (v := pv p_r) rfl) ?_
      obtain ⟨p6, hp7, h⟩ := h
      refine GL.val trivial rfl (OV.nilCheck (q := p_r) rfl hp7) ?_
      refine GL.val trivial rfl (OV.fieldAddr (p := p6) rfl rfl) ?_
      refine GL.store (p := (p6.1, p6.2 + 0)) (v := slv Sl.nil) h trivial rfl rfl rfl rfl ?_
      intro H8 h
      obtain ⟨p9, hp10, h⟩ := h
      refine GL.val trivial rfl (OV.nilCheck (q := p_r) rfl hp10) ?_
      refine GL.val trivial rfl (OV.fieldAddr (p := p9) rfl rfl) ?_
      refine GL.store (p := (p9.1, p9.2 + 2)) (v := .bool true) h trivial rfl rfl rfl rfl ?_
      intro H11 h
      exact GL.jump (fun _ _ h => h) () h ⟨rfl, trivial⟩
    · replace h := And.right h hc5
      exact GC.jump (fun _ _ h => h) () h ⟨rfl, trivial⟩
  · intro x2 H3 h
    replace h := hR4 x2 H3 h
    refine GC.seq ?_
    refine GC.region ?_
    refine GL.val trivial rfl (OV.move (v := pv p_r) rfl) ?_
    obtain ⟨p12, hp13, h⟩ := h
    refine GL.val trivial rfl (OV.nilCheck (q := p_r) rfl hp13) ?_
    refine GL.val trivial rfl (OV.fieldAddr (p := p12) rfl rfl) ?_
    obtain ⟨x14, hr15, h⟩ := h
    refine GL.val trivial rfl (OV.load (p := (p12.1, p12.2 + 2)) rfl rfl hr15) ?_
    refine GL.val trivial rfl (OV.not rfl) ?_
    refine GL.val trivial rfl (OV.assign (v := .bool (!x14)) rfl) ?_
    refine GL.nil ?_
    exact GC.ret (fun _ _ hf hs => post_tmp1 rfl rfl hf hs ⟨(!x14), rfl, h⟩)

def sh_ref02_SameRow (C : Ctx) (p_a : Sl) (p_b : Sl) (K : Bool → Heap → Prop) (H : Heap) : Prop :=
  ift (((Sl.len p_a : Int) : Int) != (Sl.len p_b : Int))
 (K false H)
 (lp (α := Int) 0 H (fun x2 J3 H4 =>
 ift (decide ((x2 : Int) < (Sl.len p_a : Int)))
 (dr H4 fun Hs6 =>
 ixa p_a x2 fun p8 =>
 ldT Hs6 T_api_Value.c (p8.1, p8.2 + (x2 : Int).toNat * 4) fun x13 =>
 ixa p_b x2 fun p15 =>
 ldT Hs6 T_api_Value.c (p15.1, p15.2 + (x2 : Int).toNat * 4) fun x20 =>
 c_ref02_Same C x13 x20 (fun r23 H24 =>
 Heap.le Hs6 H24 ∧
 ift (!r23)
 (K false H24)
 (J3 (w .i64 (x2 + 1)) H24)) H4)
 (K true H4)))

theorem ad_ref02_SameRow (C : Ctx) (p_a : Sl) (p_b : Sl) (K : Bool → Heap → Prop) (H : Heap) (h : sh_ref02_SameRow C p_a p_b K H) : c_ref02_SameRow C p_a p_b K H := by
  refine Spec.enter Tryd.func66 rfl Tryd.ntmps66 rfl ?_
  refine GC.sub [(0, slv p_a), (1, slv p_b)] ⟨rfl, rfl, trivial⟩ ?_
  refine GC.seq ?_
  refine GC.region ?_
  refine GL.val trivial rfl (OV.assign (v := .bool false) rfl) ?_
  refine GL.nil ?_
  refine GC.seq ?_
  refine GC.seq ?_
  refine GC.region ?_
  refine GL.val trivial rfl (OV.move (v := slv p_a) rfl) ?_
  refine GL.val trivial rfl (OV.lenSl (s := p_a) rfl rfl) ?_
  refine GL.val trivial rfl (OV.move (v := slv p_b) rfl) ?_
  refine GL.val trivial rfl (OV.lenSl (s := p_b) rfl rfl) ?_
  refine GL.val trivial rfl (OV.ibin (v := .bool (((Sl.len p_a : Int) : Int) != (Sl.len p_b : Int))) rfl rfl rfl) ?_
  refine GL.nil ?_
  refine GC.cond (b := ((Sl.len p_a : Int) : Int) != (Sl.len p_b : Int)) rfl (fun hc1 => ?_) (fun hc1 => ?_)
  · replace h := And.left h hc1
    refine GC.seq ?_
    refine GC.region ?_
    refine GL.val trivial rfl (OV.assign (v := .bool false) rfl) ?_
    refine GL.nil ?_
    exact GC.ret (fun _ _ hf hs => post_tmp1 rfl rfl hf hs ⟨false, rfl, h⟩)
  · replace h := And.right h hc1
    refine GC.skip ?_
    refine GC.seq ?_
    refine GC.seq ?_
    refine GC.region ?_
    refine GL.val trivial rfl (OV.assign (v := .int .i64 0) rfl) ?_
    refine GL.nil ?_
    refine GC.block ?_
    refine GC.loop (α := Int) h (fun x2 => [(5, .int .i64 x2), (0, slv p_a), (1, slv p_b)]) ⟨rfl, rfl, rfl, trivial⟩ ?_
    intro x2 H4 J3 h
    refine GC.seq ?_
    refine GC.seq ?_
    refine GC.region ?_
    refine GL.val trivial rfl (OV.move (v := .int .i64 x2) rfl) ?_
    refine GL.val trivial rfl (OV.move (v := slv p_a) rfl) ?_
    refine GL.val trivial rfl (OV.lenSl (s := p_a) rfl rfl) ?_
    refine GL.val trivial rfl (OV.ibin (v := .bool (decide ((x2 : Int) < (Sl.len p_a : Int)))) rfl rfl rfl) ?_
    refine GL.nil ?_
    refine GC.cond (b := decide ((x2 : Int) < (Sl.len p_a : Int))) rfl (fun hc5 => ?_) (fun hc5 => ?_)
    · replace h := And.left h hc5
      refine GC.skip ?_
      refine GC.seq ?_
      refine GC.block ?_
      refine GC.seq ?_
      obtain ⟨Hs6, hle7, h⟩ := h
      refine GC.any (Hs := Hs6) (by kernel_rfl) hle7 ?_
      refine GA.take 0 rfl (by kernel_rfl) (by kernel_rfl) (by kernel_rfl) (fun _ _ _ h => by obtain ⟨_, _, _, h, _⟩ := h; cases h) trivial rfl (OV.move (v := slv p_a) rfl) ?_
      refine GA.take 1 rfl (by kernel_rfl) (by kernel_rfl) (by kernel_rfl) (fun _ _ _ h => by obtain ⟨_, _, _, h, _⟩ := h; cases h) trivial rfl (OV.move (v := .int .i64 x2) rfl) ?_
      obtain ⟨p8, ha9, hb10, hc11, hd12, h⟩ := h
      refine GA.take 2 rfl (by kernel_rfl) (by kernel_rfl) (by kernel_rfl) (fun _ _ _ h => by obtain ⟨_, _, _, h, _⟩ := h; cases h) trivial rfl (OV.indexAddr (s := p_a) rfl rfl rfl rfl ha9 hb10 hc11 hd12) ?_
      obtain ⟨x13, hr14, h⟩ := h
      refine GA.take 3 rfl (by kernel_rfl) (by kernel_rfl) (by kernel_rfl) (fun _ _ _ h => by obtain ⟨_, _, _, h, _⟩ := h; cases h) trivial rfl (OV.loadT (p := (p8.1, p8.2 + (x2 : Int).toNat * 4)) (cs := T_api_Value.c x13) rfl rfl rfl hr14) ?_
      refine GA.take 4 rfl (by kernel_rfl) (by kernel_rfl) (by kernel_rfl) (fun _ _ _ h => by obtain ⟨_, _, _, h, _⟩ := h; cases h) trivial rfl (OV.move (v := slv p_b) rfl) ?_
      refine GA.take 5 rfl (by kernel_rfl) (by kernel_rfl) (by kernel_rfl) (fun _ _ _ h => by obtain ⟨_, _, _, h, _⟩ := h; cases h) trivial rfl (OV.move (v := .int .i64 x2) rfl) ?_
      obtain ⟨p15, ha16, hb17, hc18, hd19, h⟩ := h
      refine GA.take 6 rfl (by kernel_rfl) (by kernel_rfl) (by kernel_rfl) (fun _ _ _ h => by obtain ⟨_, _, _, h, _⟩ := h; cases h) trivial rfl (OV.indexAddr (s := p_b) rfl rfl rfl rfl ha16 hb17 hc18 hd19) ?_
      obtain ⟨x20, hr21, h⟩ := h
      refine GA.take 7 rfl (by kernel_rfl) (by kernel_rfl) (by kernel_rfl) (fun _ _ _ h => by obtain ⟨_, _, _, h, _⟩ := h; cases h) trivial rfl (OV.loadT (p := (p15.1, p15.2 + (x2 : Int).toNat * 4)) (cs := T_api_Value.c x20) rfl rfl rfl hr21) ?_
      refine GA.eff 8 rfl (by kernel_rfl) ?_
      refine GL.call h trivial rfl ok_ref02_Same (vs := [.agg (T_api_Value.c x13).toArray, .agg (T_api_Value.c x20).toArray]) rfl ?_
      rintro _ H24 ⟨r23, rfl, h⟩
      obtain ⟨hle22, h⟩ := h
      refine GA.back hle22 ?_
      refine GA.take 9 rfl (by kernel_rfl) (by kernel_rfl) (by kernel_rfl) (fun _ _ _ h => by obtain ⟨_, _, _, h, _⟩ := h; cases h) trivial rfl (OV.not rfl) ?_
      refine GA.done (by kernel_rfl) ?_
      refine GL.nil ?_
      refine GC.cond (b := !r23) rfl (fun hc25 => ?_) (fun hc25 => ?_)
      · replace h := And.left h hc25
        refine GC.seq ?_
        refine GC.region ?_
        refine GL.val trivial rfl (OV.assign (v := .bool false) rfl) ?_
        refine GL.nil ?_
        exact GC.ret (fun _ _ hf hs => post_tmp1 rfl rfl hf hs ⟨false, rfl, h⟩)
      · replace h := And.right h hc25
        refine GC.skip_to (fun _ _ h => h) ?_
        refine GC.region ?_
        refine GL.val trivial rfl (OV.move (v := .int .i64 x2) rfl) ?_
        refine GL.val trivial rfl (OV.ibin (v := .int .i64 (w .i64 (x2 + 1))) rfl rfl rfl) ?_
        refine GL.val trivial rfl (OV.assign (v := .int .i64 (w .i64 (x2 + 1))) rfl) ?_
        exact GL.jump (fun _ _ h => h) (w .i64 (x2 + 1)) h ⟨rfl, rfl, rfl, trivial⟩
    · replace h := And.right h hc5
      refine GC.exit_to (fun _ _ h => h) ?_
      refine GC.seq ?_
      refine GC.region ?_
      refine GL.val trivial rfl (OV.assign (v := .bool true) rfl) ?_
      refine GL.nil ?_
      exact GC.ret (fun _ _ hf hs => post_tmp1 rfl rfl hf hs ⟨true, rfl, h⟩)

def sh_code_Reader_value (C : Ctx) (p_r : Option (Nat × Nat)) (p_deep : Int) (K : T_api_Value → Heap → Prop) (H : Heap) : Prop :=
  nw (T_api_Value.c T_api_Value.zero) (fun b1 H2 =>
 nw ((List.replicate 7 (.nilFunc : Value))) (fun b3 H4 =>
 stC 7 (b3, 0) [.nilFunc, .func (.func 85) (List.toArray []) (List.toArray []), .func (.func 86) (List.toArray []) (List.toArray []), .func (.func 87) (List.toArray []) (List.toArray []), .func (.func 88) (List.toArray []) (List.toArray []), .func (.func 89) (List.toArray []) (List.toArray []), .func (.func 90) (List.toArray []) (List.toArray [])] (fun H5 =>
 c_code_Reader_next C p_r (fun r8 H9 =>
 nw (T_api_Value.c T_api_Value.zero) (fun b10 H11 =>
 stT (b10, 0) (T_api_Value.c (⟨r8, 0, [], Sl.nil⟩ : T_api_Value)) (fun H12 =>
 jn (α := Unit) (fun x14 H15 =>
 ldT H15 T_api_Value.c (b10, 0) fun x41 =>
 stT (b1, 0) (T_api_Value.c x41) (fun H43 =>
 ldT H43 T_api_Value.c (b1, 0) fun x44 =>
 K x44 H43) H15)
 (fun J13 => jn (α := Bool) (fun b17 H23 =>
 jn (α := Bool) (fun b24 H30 =>
 c_code_Reader_ask C p_r b24 (fun r31 H32 =>
 ift r31
 (ldI H32 .u8 ((b10, 0).1, (b10, 0).2 + 0) fun x34 =>
 ixr (b3, 0) 7 x34 <|
 ldV H32 ((b3, 0).1, (b3, 0).2 + (x34 : Int).toNat * 1) fun x38 =>
 callU Tryd.prog C x38 [pv p_r, pv (some (b10, 0)), .int .i64 p_deep] H32 (fun v H40 => v = .tuple #[] ∧
 J13 () H40))
 (J13 () H32)) H30)
 (fun J25 => ift b17
 (ldI H23 .u8 ((b10, 0).1, (b10, 0).2 + 0) fun x28 =>
 J25 (decide ((x28 : Int) ≤ 6)) H23)
 (J25 false H23)))
 (fun J18 => ift (decide ((p_deep : Int) ≤ 64))
 (ldI H12 .u8 ((b10, 0).1, (b10, 0).2 + 0) fun x21 =>
 J18 (decide ((x21 : Int) ≥ 1)) H12)
 (J18 false H12)))) H11) H9) H5) H4) H2) H

theorem ad_code_Reader_value (C : Ctx) (p_r : Option (Nat × Nat)) (p_deep : Int) (K : T_api_Value → Heap → Prop) (H : Heap) (h : sh_code_Reader_value C p_r p_deep K H) : c_code_Reader_value C p_r p_deep K H := by
  refine Spec.enter Tryd.func67 rfl Tryd.ntmps67 rfl ?_
  refine GC.sub [(0, pv p_r), (1, .int .i64 p_deep)] ⟨rfl, rfl, trivial⟩ ?_
  refine GC.seq ?_
  refine GC.region ?_
  refine GL.alloc (cs := T_api_Value.c T_api_Value.zero) h trivial rfl rfl rfl ?_
  intro b1 H2 h
  refine GL.nil ?_
  refine GC.seq ?_
  refine GC.region ?_
  refine GL.val trivial rfl (OV.build (vs := [(1, .func (.func 85) (List.toArray []) (List.toArray [])), (2, .func (.func 86) (List.toArray []) (List.toArray [])), (3, .func (.func 87) (List.toArray []) (List.toArray [])), (4, .func (.func 88) (List.toArray []) (List.toArray [])), (5, .func (.func 89) (List.toArray []) (List.toArray [])), (6, .func (.func 90) (List.toArray []) (List.toArray []))]) (v := .agg (List.toArray [.nilFunc, .func (.func 85) (List.toArray []) (List.toArray []), .func (.func 86) (List.toArray []) (List.toArray []), .func (.func 87) (List.toArray []) (List.toArray []), .func (.func 88) (List.toArray []) (List.toArray []), .func (.func 89) (List.toArray []) (List.toArray []), .func (.func 90) (List.toArray []) (List.toArray [])])) rfl (fun _ => by kernel_rfl)) ?_
  refine GL.alloc (cs := (List.replicate 7 (.nilFunc : Value))) h trivial rfl rfl rfl ?_
  intro b3 H4 h
  obtain ⟨hl6, h17, h⟩ := h
  refine GL.storeT (p := (b3, 0)) (vs := [.nilFunc, .func (.func 85) (List.toArray []) (List.toArray []), .func (.func 86) (List.toArray []) (List.toArray []), .func (.func 87) (List.toArray []) (List.toArray []), .func (.func 88) (List.toArray []) (List.toArray []), .func (.func 89) (List.toArray []) (List.toArray []), .func (.func 90) (List.toArray []) (List.toArray [])]) h trivial rfl rfl h17 (by rw [hl6]; rfl) ?_
  intro H5 h
  refine GL.nil ?_
  refine GC.seq ?_
  refine GC.region ?_
  refine GL.val trivial rfl (OV.move (v := pv p_r) rfl) ?_
  refine GL.call h trivial rfl ok_code_Reader_next (vs := [pv p_r]) rfl ?_
  rintro _ H9 ⟨r8, rfl, h⟩
  refine GL.val trivial rfl (OV.build (vs := [(0, .int .u8 r8)]) (v := .agg (T_api_Value.c (⟨r8, 0, [], Sl.nil⟩ : T_api_Value)).toArray) rfl (fun _ => by kernel_rfl)) ?_
  refine GL.alloc (cs := T_api_Value.c T_api_Value.zero) h trivial rfl rfl rfl ?_
  intro b10 H11 h
  refine GL.storeT (p := (b10, 0)) (vs := T_api_Value.c (⟨r8, 0, [], Sl.nil⟩ : T_api_Value)) h trivial rfl rfl rfl rfl ?_
  intro H12 h
  refine GL.nil ?_
  obtain ⟨J13, h, hR16⟩ := h
  refine GC.join (α := Unit) J13 (fun _ => [(4, pv (some (b1, 0))), (6, pv (some (b10, 0)))]) ?_ ?_
  · skip
    refine GC.seq ?_
    refine GC.region ?_
    refine GL.val trivial rfl (OV.move (v := pv p_r) rfl) ?_
    refine GL.val trivial rfl (OV.move (v := .int .i64 p_deep) rfl) ?_
    refine GL.val trivial rfl (OV.ibin (v := .bool (decide ((p_deep : Int) ≤ 64))) rfl rfl rfl) ?_
    refine GL.val trivial rfl (OV.move (v := .bool (decide ((p_deep : Int) ≤ 64))) rfl) ?_
    obtain ⟨J18, h, hR19⟩ := h
    refine GL.cut (α := Bool) 4 J18 (fun b17 => [(18, .bool b17), (0, pv p_r), (1, .int .i64 p_deep), (4, pv (some (b1, 0))), (5, pv (some (b3, 0))), (6, pv (some (b10, 0))), (11, pv p_r)]) ?_ ?_
    · rcases Bool.eq_false_or_eq_true (decide ((p_deep : Int) ≤ 64)) with hc20 | hc20
      · skip
        replace h := And.left h hc20
        refine GL.val ⟨_, _, rfl, rfl, hc20⟩ rfl (OV.fieldAddr (p := (b10, 0)) rfl rfl) ?_
        obtain ⟨x21, hr22, h⟩ := h
        refine GL.val ⟨_, _, rfl, rfl, hc20⟩ rfl (OV.load (p := ((b10, 0).1, (b10, 0).2 + 0)) rfl rfl hr22) ?_
        refine GL.val ⟨_, _, rfl, rfl, hc20⟩ rfl (OV.ibin (v := .bool (decide ((x21 : Int) ≥ 1))) rfl rfl rfl) ?_
        refine GL.val trivial rfl (OV.pickT (b := decide ((p_deep : Int) ≤ 64)) (v := .bool (decide ((x21 : Int) ≥ 1))) rfl hc20 rfl) ?_
        exact GL.jump (fun _ _ h => h) (decide ((x21 : Int) ≥ 1)) h ⟨rfl, rfl, rfl, rfl, rfl, rfl, rfl, trivial⟩
      · skip
        replace h := And.right h hc20
        refine GL.skip ⟨_, rfl, .inl ⟨_, rfl, hc20⟩⟩ rfl ?_
        refine GL.skip ⟨_, rfl, .inl ⟨_, rfl, hc20⟩⟩ rfl ?_
        refine GL.skip ⟨_, rfl, .inl ⟨_, rfl, hc20⟩⟩ rfl ?_
        refine GL.val trivial rfl (OV.pickF (b := decide ((p_deep : Int) ≤ 64)) (v := .bool false) rfl hc20 rfl) ?_
        exact GL.jump (fun _ _ h => h) false h ⟨rfl, rfl, rfl, rfl, rfl, rfl, rfl, trivial⟩
    intro b17 H23 h
    replace h := hR19 b17 H23 h
    refine GL.val trivial rfl (OV.move (v := .bool b17) rfl) ?_
    obtain ⟨J25, h, hR26⟩ := h
    refine GL.cut (α := Bool) 4 J25 (fun b24 => [(23, .bool b24), (0, pv p_r), (1, .int .i64 p_deep), (4, pv (some (b1, 0))), (5, pv (some (b3, 0))), (6, pv (some (b10, 0))), (11, pv p_r)]) ?_ ?_
    · rcases Bool.eq_false_or_eq_true b17 with hc27 | hc27
      · skip
        replace h := And.left h hc27
        refine GL.val ⟨_, _, rfl, rfl, hc27⟩ rfl (OV.fieldAddr (p := (b10, 0)) rfl rfl) ?_
        obtain ⟨x28, hr29, h⟩ := h
        refine GL.val ⟨_, _, rfl, rfl, hc27⟩ rfl (OV.load (p := ((b10, 0).1, (b10, 0).2 + 0)) rfl rfl hr29) ?_
        refine GL.val ⟨_, _, rfl, rfl, hc27⟩ rfl (OV.ibin (v := .bool (decide ((x28 : Int) ≤ 6))) rfl rfl rfl) ?_
        refine GL.val trivial rfl (OV.pickT (b := b17) (v := .bool (decide ((x28 : Int) ≤ 6))) rfl hc27 rfl) ?_
        exact GL.jump (fun _ _ h => h) (decide ((x28 : Int) ≤ 6)) h ⟨rfl, rfl, rfl, rfl, rfl, rfl, rfl, trivial⟩
      · skip
        replace h := And.right h hc27
        refine GL.skip ⟨_, rfl, .inl ⟨_, rfl, hc27⟩⟩ rfl ?_
        refine GL.skip ⟨_, rfl, .inl ⟨_, rfl, hc27⟩⟩ rfl ?_
        refine GL.skip ⟨_, rfl, .inl ⟨_, rfl, hc27⟩⟩ rfl ?_
        refine GL.val trivial rfl (OV.pickF (b := b17) (v := .bool false) rfl hc27 rfl) ?_
        exact GL.jump (fun _ _ h => h) false h ⟨rfl, rfl, rfl, rfl, rfl, rfl, rfl, trivial⟩
    intro b24 H30 h
    replace h := hR26 b24 H30 h
    refine GL.call h trivial rfl ok_code_Reader_ask (vs := [pv p_r, .bool b24]) rfl ?_
    rintro _ H32 ⟨r31, rfl, h⟩
    refine GL.nil ?_
    refine GC.cond (b := r31) rfl (fun hc33 => ?_) (fun hc33 => ?_)
    · replace h := And.left h hc33
      refine GC.region ?_
      refine GL.val trivial rfl (OV.fieldAddr (p := (b10, 0)) rfl rfl) ?_
      obtain ⟨x34, hr35, h⟩ := h
      refine GL.val trivial rfl (OV.load (p := ((b10, 0).1, (b10, 0).2 + 0)) rfl rfl hr35) ?_
      obtain ⟨ha36, hb37, h⟩ := h
      refine GL.val trivial rfl (OV.indexAddrA (p := (b3, 0)) rfl rfl rfl rfl ha36 hb37) ?_
      obtain ⟨x38, hr39, h⟩ := h
      refine GL.val trivial rfl (OV.load (p := ((b3, 0).1, (b3, 0).2 + (x34 : Int).toNat * 1)) rfl rfl hr39) ?_
      refine GL.val trivial rfl (OV.move (v := pv p_r) rfl) ?_
      refine GL.val trivial rfl (OV.move (v := .int .i64 p_deep) rfl) ?_
      refine GL.callU (xv := x38) (vs := [pv p_r, pv (some (b10, 0)), .int .i64 p_deep]) h trivial rfl rfl rfl ?_
      rintro _ H40 ⟨rfl, h⟩
      exact GL.jump (fun _ _ h => h) () h ⟨rfl, rfl, trivial⟩
    · replace h := And.right h hc33
      exact GC.jump (fun _ _ h => h) () h ⟨rfl, rfl, trivial⟩
  · intro x14 H15 h
    replace h := hR16 x14 H15 h
    refine GC.seq ?_
    refine GC.region ?_
    obtain ⟨x41, hr42, h⟩ := h
    refine GL.val trivial rfl (OV.loadT (p := (b10, 0)) (cs := T_api_Value.c x41) rfl rfl rfl hr42) ?_
    refine GL.storeT (p := (b1, 0)) (vs := T_api_Value.c x41) h trivial rfl rfl rfl rfl ?_
    intro H43 h
    refine GL.nil ?_
    obtain ⟨x44, hr45, h⟩ := h
    exact GC.ret (fun _ _ hf hs => post_res1 rfl (RV.cellT (p := (b1, 0)) (cs := T_api_Value.c x44) rfl rfl rfl hr45) hf hs ⟨x44, rfl, h⟩)

def sh_code_pen_flip (C : Ctx) (p_p : Option (Nat × Nat)) (p_is : Bool) (K : Heap → Prop) (H : Heap) : Prop :=
  ift p_is
 (nck p_p fun p2 =>
 ldI H .u8 (p2.1, p2.2 + 1) fun x4 =>
 nck p_p fun p6 =>
 st (p6.1, p6.2 + 1) (.int .u8 (bXor .u8 x4 255)) (fun H8 =>
 K H8) H)
 (K H)

theorem ad_code_pen_flip (C : Ctx) (p_p : Option (Nat × Nat)) (p_is : Bool) (K : Heap → Prop) (H : Heap) (h : sh_code_pen_flip C p_p p_is K H) : c_code_pen_flip C p_p p_is K H := by
  refine Spec.enter Tryd.func68 rfl Tryd.ntmps68 rfl ?_
  refine GC.sub [(0, pv p_p), (1, .bool p_is)] ⟨rfl, rfl, trivial⟩ ?_
  refine GC.seq ?_
  refine GC.region ?_
  refine GL.val trivial rfl (OV.move (v := .bool p_is) rfl) ?_
  refine GL.nil ?_
  refine GC.cond (b := p_is) rfl (fun hc1 => ?_) (fun hc1 => ?_)
  · replace h := And.left h hc1
    refine GC.region ?_
    refine GL.val trivial rfl (OV.move (v := pv p_p) rfl) ?_
    obtain ⟨p2, hp3, h⟩ := h
    refine GL.val trivial rfl (OV.nilCheck (q := p_p) rfl hp3) ?_
    refine GL.val trivial rfl (OV.fieldAddr (p := p2) rfl rfl) ?_
    obtain ⟨x4, hr5, h⟩ := h
    refine GL.val trivial rfl (OV.load (p := (p2.1, p2.2 + 1)) rfl rfl hr5) ?_
    refine GL.val trivial rfl (OV.ibin (v := .int .u8 (bXor .u8 x4 255)) rfl rfl rfl) ?_
    obtain ⟨p6, hp7, h⟩ := h
    refine GL.val trivial rfl (OV.nilCheck (q := p_p) rfl hp7) ?_
    refine GL.val trivial rfl (OV.fieldAddr (p := p6) rfl rfl) ?_
    refine GL.store (p := (p6.1, p6.2 + 1)) (v := .int .u8 (bXor .u8 x4 255)) h trivial rfl rfl rfl rfl ?_
    intro H8 h
    exact GL.ends (fun _ _ hf hs => post_tmp0 rfl hf hs ⟨rfl, h⟩)
  · replace h := And.right h hc1
    exact GC.ends (fun _ _ hf hs => post_tmp0 rfl hf hs ⟨rfl, h⟩)

end Sx
