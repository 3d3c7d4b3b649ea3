/-
  Made by program (wip/gen/gen.py): the shallow forms of the functions, and that each implies its contract.
-/
import Derived.Test.YtlpjpjbgfffffaaDoorSxBld
import Derived.Test.YtlpjpjbgfffffaaDoorSxArr
import Derived.Test.YtlpjpjbgfffffaaDoorProg
set_option linter.unusedVariables false
set_option maxRecDepth 100000
namespace Sx
open Go Go.Proofs

structure T_api_Value where
  Kind : Int
  N : Int
  S : Str
  L : Sl
def T_api_Value.c (x : T_api_Value) : List Value := [.int .u8 x.Kind, .int .i64 x.N, sv x.S, slv x.L]
def T_api_Value.zero : T_api_Value := ⟨0, 0, [], Sl.nil⟩
structure T_law03_Ask where
  Kind : Int
  Most : Int
def T_law03_Ask.c (x : T_law03_Ask) : List Value := [.int .u8 x.Kind, .int .i64 x.Most]
def T_law03_Ask.zero : T_law03_Ask := ⟨0, 0⟩
structure T_law03_told where
  n_ : Int
  s_ : Str
  v_ : T_api_Value
  ok_ : Bool
def T_law03_told.c (x : T_law03_told) : List Value := [.int .i64 x.n_, sv x.s_, .int .u8 x.v_.Kind, .int .i64 x.v_.N, sv x.v_.S, slv x.v_.L, .bool x.ok_]
def T_law03_told.zero : T_law03_told := ⟨0, [], T_api_Value.zero, false⟩
structure T_code_Reader where
  b_ : Sl
  turn_ : Int
  failed_ : Bool
def T_code_Reader.c (x : T_code_Reader) : List Value := [slv x.b_, .int .u8 x.turn_, .bool x.failed_]
def T_code_Reader.zero : T_code_Reader := ⟨Sl.nil, 0, false⟩
structure T_code_pen where
  b_ : Sl
  turn_ : Int
def T_code_pen.c (x : T_code_pen) : List Value := [slv x.b_, .int .u8 x.turn_]
def T_code_pen.zero : T_code_pen := ⟨Sl.nil, 0⟩

theorem ok_law03_CodePuts : CallOk Tryd.prog 3 := ⟨⟨_, Tryd.func3, rfl, by decide +kernel⟩⟩
theorem ok_law03_CodeOrder : CallOk Tryd.prog 4 := ⟨⟨_, Tryd.func4, rfl, by decide +kernel⟩⟩
theorem ok_law03_CodeRows : CallOk Tryd.prog 5 := ⟨⟨_, Tryd.func5, rfl, by decide +kernel⟩⟩
theorem ok_law03_CodeBehind : CallOk Tryd.prog 6 := ⟨⟨_, Tryd.func6, rfl, by decide +kernel⟩⟩
theorem ok_law03_CodeNames : CallOk Tryd.prog 7 := ⟨⟨_, Tryd.func7, rfl, by decide +kernel⟩⟩
theorem ok_law03_CodeApart : CallOk Tryd.prog 8 := ⟨⟨_, Tryd.func8, rfl, by decide +kernel⟩⟩
theorem ok_law03_CodeAmong : CallOk Tryd.prog 9 := ⟨⟨_, Tryd.func9, rfl, by decide +kernel⟩⟩
theorem ok_law03_wide : CallOk Tryd.prog 10 := ⟨⟨_, Tryd.func10, rfl, by decide +kernel⟩⟩
theorem ok_law03_works : CallOk Tryd.prog 11 := ⟨⟨_, Tryd.func11, rfl, by decide +kernel⟩⟩
theorem ok_law03_put : CallOk Tryd.prog 12 := ⟨⟨_, Tryd.func12, rfl, by decide +kernel⟩⟩
theorem ok_code_Num : CallOk Tryd.prog 13 := ⟨⟨_, Tryd.func13, rfl, by decide +kernel⟩⟩
theorem ok_ref03_Num : CallOk Tryd.prog 14 := ⟨⟨_, Tryd.func14, rfl, by decide +kernel⟩⟩
theorem ok_code_Count : CallOk Tryd.prog 15 := ⟨⟨_, Tryd.func15, rfl, by decide +kernel⟩⟩
theorem ok_ref03_Count : CallOk Tryd.prog 16 := ⟨⟨_, Tryd.func16, rfl, by decide +kernel⟩⟩
theorem ok_code_Str : CallOk Tryd.prog 17 := ⟨⟨_, Tryd.func17, rfl, by decide +kernel⟩⟩
theorem ok_ref03_Str : CallOk Tryd.prog 18 := ⟨⟨_, Tryd.func18, rfl, by decide +kernel⟩⟩
theorem ok_code_Flag : CallOk Tryd.prog 19 := ⟨⟨_, Tryd.func19, rfl, by decide +kernel⟩⟩
theorem ok_ref03_Flag : CallOk Tryd.prog 20 := ⟨⟨_, Tryd.func20, rfl, by decide +kernel⟩⟩
theorem ok_code_Value : CallOk Tryd.prog 21 := ⟨⟨_, Tryd.func21, rfl, by decide +kernel⟩⟩
theorem ok_ref03_Value : CallOk Tryd.prog 22 := ⟨⟨_, Tryd.func22, rfl, by decide +kernel⟩⟩
theorem ok_ref02_Cmp : CallOk Tryd.prog 23 := ⟨⟨_, Tryd.func23, rfl, by decide +kernel⟩⟩
theorem ok_law03_stands : CallOk Tryd.prog 24 := ⟨⟨_, Tryd.func24, rfl, by decide +kernel⟩⟩
theorem ok_law03_behind : CallOk Tryd.prog 25 := ⟨⟨_, Tryd.func25, rfl, by decide +kernel⟩⟩
theorem ok_ref02_Check : CallOk Tryd.prog 26 := ⟨⟨_, Tryd.func26, rfl, by decide +kernel⟩⟩
theorem ok_ref02_CmpRows : CallOk Tryd.prog 27 := ⟨⟨_, Tryd.func27, rfl, by decide +kernel⟩⟩
theorem ok_code_NewReader : CallOk Tryd.prog 28 := ⟨⟨_, Tryd.func28, rfl, by decide +kernel⟩⟩
theorem ok_law03_Ask_of : CallOk Tryd.prog 29 := ⟨⟨_, Tryd.func29, rfl, by decide +kernel⟩⟩
theorem ok_code_Reader_Left : CallOk Tryd.prog 30 := ⟨⟨_, Tryd.func30, rfl, by decide +kernel⟩⟩
theorem ok_law03_told_same : CallOk Tryd.prog 31 := ⟨⟨_, Tryd.func31, rfl, by decide +kernel⟩⟩
theorem ok_code_Reader_Done : CallOk Tryd.prog 32 := ⟨⟨_, Tryd.func32, rfl, by decide +kernel⟩⟩
theorem ok_code_Reader_Num : CallOk Tryd.prog 33 := ⟨⟨_, Tryd.func33, rfl, by decide +kernel⟩⟩
theorem ok_code_Reader_Str : CallOk Tryd.prog 34 := ⟨⟨_, Tryd.func34, rfl, by decide +kernel⟩⟩
theorem ok_law03_tuple : CallOk Tryd.prog 35 := ⟨⟨_, Tryd.func35, rfl, by decide +kernel⟩⟩
theorem ok_law03_text : CallOk Tryd.prog 36 := ⟨⟨_, Tryd.func36, rfl, by decide +kernel⟩⟩
theorem ok_ref02_Same : CallOk Tryd.prog 37 := ⟨⟨_, Tryd.func37, rfl, by decide +kernel⟩⟩
theorem ok_code_Reader_Value : CallOk Tryd.prog 38 := ⟨⟨_, Tryd.func38, rfl, by decide +kernel⟩⟩
theorem ok_code_Reader_OK : CallOk Tryd.prog 39 := ⟨⟨_, Tryd.func39, rfl, by decide +kernel⟩⟩
theorem ok_code_Reader_Count : CallOk Tryd.prog 40 := ⟨⟨_, Tryd.func40, rfl, by decide +kernel⟩⟩
theorem ok_code_Reader_Flag : CallOk Tryd.prog 41 := ⟨⟨_, Tryd.func41, rfl, by decide +kernel⟩⟩
theorem ok_law03_parts : CallOk Tryd.prog 42 := ⟨⟨_, Tryd.func42, rfl, by decide +kernel⟩⟩
theorem ok_code_behind : CallOk Tryd.prog 43 := ⟨⟨_, Tryd.func43, rfl, by decide +kernel⟩⟩
theorem ok_code_pen_num : CallOk Tryd.prog 44 := ⟨⟨_, Tryd.func44, rfl, by decide +kernel⟩⟩
theorem ok_ref03_with : CallOk Tryd.prog 45 := ⟨⟨_, Tryd.func45, rfl, by decide +kernel⟩⟩
theorem ok_ref03_turned : CallOk Tryd.prog 46 := ⟨⟨_, Tryd.func46, rfl, by decide +kernel⟩⟩
theorem ok_ref03_digits : CallOk Tryd.prog 47 := ⟨⟨_, Tryd.func47, rfl, by decide +kernel⟩⟩
theorem ok_code_pen_number : CallOk Tryd.prog 48 := ⟨⟨_, Tryd.func48, rfl, by decide +kernel⟩⟩
theorem ok_code_pen_text : CallOk Tryd.prog 49 := ⟨⟨_, Tryd.func49, rfl, by decide +kernel⟩⟩
theorem ok_code_pen_put : CallOk Tryd.prog 50 := ⟨⟨_, Tryd.func50, rfl, by decide +kernel⟩⟩
theorem ok_value_Check : CallOk Tryd.prog 51 := ⟨⟨_, Tryd.func51, rfl, by decide +kernel⟩⟩
theorem ok_code_pen_value : CallOk Tryd.prog 52 := ⟨⟨_, Tryd.func52, rfl, by decide +kernel⟩⟩
theorem ok_ref03_put : CallOk Tryd.prog 53 := ⟨⟨_, Tryd.func53, rfl, by decide +kernel⟩⟩
theorem ok_ref02_last : CallOk Tryd.prog 54 := ⟨⟨_, Tryd.func54, rfl, by decide +kernel⟩⟩
theorem ok_ref02_cmp : CallOk Tryd.prog 55 := ⟨⟨_, Tryd.func55, rfl, by decide +kernel⟩⟩
theorem ok_ref02_Depth : CallOk Tryd.prog 56 := ⟨⟨_, Tryd.func56, rfl, by decide +kernel⟩⟩
theorem ok_ref02_form : CallOk Tryd.prog 57 := ⟨⟨_, Tryd.func57, rfl, by decide +kernel⟩⟩
theorem ok_ref02_fits : CallOk Tryd.prog 58 := ⟨⟨_, Tryd.func58, rfl, by decide +kernel⟩⟩
theorem ok_ref02_Row : CallOk Tryd.prog 59 := ⟨⟨_, Tryd.func59, rfl, by decide +kernel⟩⟩
theorem ok_ref02_rows : CallOk Tryd.prog 60 := ⟨⟨_, Tryd.func60, rfl, by decide +kernel⟩⟩
theorem ok_slices_Clone_byte_byte : CallOk Tryd.prog 61 := ⟨⟨_, Tryd.func61, rfl, by decide +kernel⟩⟩
theorem ok_code_Reader_next : CallOk Tryd.prog 62 := ⟨⟨_, Tryd.func62, rfl, by decide +kernel⟩⟩
theorem ok_code_Reader_flip : CallOk Tryd.prog 63 := ⟨⟨_, Tryd.func63, rfl, by decide +kernel⟩⟩
theorem ok_code_Reader_number : CallOk Tryd.prog 64 := ⟨⟨_, Tryd.func64, rfl, by decide +kernel⟩⟩
theorem ok_code_Reader_ask : CallOk Tryd.prog 65 := ⟨⟨_, Tryd.func65, rfl, by decide +kernel⟩⟩
theorem ok_ref02_SameRow : CallOk Tryd.prog 66 := ⟨⟨_, Tryd.func66, rfl, by decide +kernel⟩⟩
theorem ok_code_Reader_value : CallOk Tryd.prog 67 := ⟨⟨_, Tryd.func67, rfl, by decide +kernel⟩⟩
theorem ok_code_pen_flip : CallOk Tryd.prog 68 := ⟨⟨_, Tryd.func68, rfl, by decide +kernel⟩⟩
theorem ok_math_bits_Len64 : CallOk Tryd.prog 69 := ⟨⟨_, Tryd.func69, rfl, by decide +kernel⟩⟩
theorem ok_value_depth : CallOk Tryd.prog 70 := ⟨⟨_, Tryd.func70, rfl, by decide +kernel⟩⟩
theorem ok_value_item_look : CallOk Tryd.prog 71 := ⟨⟨_, Tryd.func71, rfl, by decide +kernel⟩⟩
theorem ok_code_pen_truth : CallOk Tryd.prog 72 := ⟨⟨_, Tryd.func72, rfl, by decide +kernel⟩⟩
theorem ok_code_pen_whole : CallOk Tryd.prog 73 := ⟨⟨_, Tryd.func73, rfl, by decide +kernel⟩⟩
theorem ok_code_pen_big : CallOk Tryd.prog 74 := ⟨⟨_, Tryd.func74, rfl, by decide +kernel⟩⟩
theorem ok_code_pen_words : CallOk Tryd.prog 75 := ⟨⟨_, Tryd.func75, rfl, by decide +kernel⟩⟩
theorem ok_code_pen_list : CallOk Tryd.prog 76 := ⟨⟨_, Tryd.func76, rfl, by decide +kernel⟩⟩
theorem ok_code_pen_cons : CallOk Tryd.prog 77 := ⟨⟨_, Tryd.func77, rfl, by decide +kernel⟩⟩
theorem ok_ref03_big : CallOk Tryd.prog 78 := ⟨⟨_, Tryd.func78, rfl, by decide +kernel⟩⟩
theorem ok_ref02_ints : CallOk Tryd.prog 79 := ⟨⟨_, Tryd.func79, rfl, by decide +kernel⟩⟩
theorem ok_ref02_Bigs : CallOk Tryd.prog 80 := ⟨⟨_, Tryd.func80, rfl, by decide +kernel⟩⟩
theorem ok_ref02_texts : CallOk Tryd.prog 81 := ⟨⟨_, Tryd.func81, rfl, by decide +kernel⟩⟩
theorem ok_ref02_Number : CallOk Tryd.prog 82 := ⟨⟨_, Tryd.func82, rfl, by decide +kernel⟩⟩
theorem ok_ref02_Names : CallOk Tryd.prog 83 := ⟨⟨_, Tryd.func83, rfl, by decide +kernel⟩⟩
theorem ok_ref02_Digits : CallOk Tryd.prog 84 := ⟨⟨_, Tryd.func84, rfl, by decide +kernel⟩⟩
theorem ok_code_Reader_truth : CallOk Tryd.prog 85 := ⟨⟨_, Tryd.func85, rfl, by decide +kernel⟩⟩
theorem ok_code_Reader_whole : CallOk Tryd.prog 86 := ⟨⟨_, Tryd.func86, rfl, by decide +kernel⟩⟩
theorem ok_code_Reader_big : CallOk Tryd.prog 87 := ⟨⟨_, Tryd.func87, rfl, by decide +kernel⟩⟩
theorem ok_code_Reader_words : CallOk Tryd.prog 88 := ⟨⟨_, Tryd.func88, rfl, by decide +kernel⟩⟩
theorem ok_code_Reader_list : CallOk Tryd.prog 89 := ⟨⟨_, Tryd.func89, rfl, by decide +kernel⟩⟩
theorem ok_code_Reader_cons : CallOk Tryd.prog 90 := ⟨⟨_, Tryd.func90, rfl, by decide +kernel⟩⟩
theorem ok_value_number : CallOk Tryd.prog 91 := ⟨⟨_, Tryd.func91, rfl, by decide +kernel⟩⟩
theorem ok_strings_Cut : CallOk Tryd.prog 92 := ⟨⟨_, Tryd.func92, rfl, by decide +kernel⟩⟩
theorem ok_value_name : CallOk Tryd.prog 93 := ⟨⟨_, Tryd.func93, rfl, by decide +kernel⟩⟩
theorem ok_strings_CutPrefix : CallOk Tryd.prog 94 := ⟨⟨_, Tryd.func94, rfl, by decide +kernel⟩⟩
theorem ok_ref02_Name : CallOk Tryd.prog 95 := ⟨⟨_, Tryd.func95, rfl, by decide +kernel⟩⟩
theorem ok_strings_TrimPrefix : CallOk Tryd.prog 96 := ⟨⟨_, Tryd.func96, rfl, by decide +kernel⟩⟩
theorem ok_strings_Trim : CallOk Tryd.prog 97 := ⟨⟨_, Tryd.func97, rfl, by decide +kernel⟩⟩
theorem ok_internal_stringslite_Cut : CallOk Tryd.prog 98 := ⟨⟨_, Tryd.func98, rfl, by decide +kernel⟩⟩
theorem ok_internal_stringslite_CutPrefix : CallOk Tryd.prog 99 := ⟨⟨_, Tryd.func99, rfl, by decide +kernel⟩⟩
theorem ok_ref02_letter : CallOk Tryd.prog 100 := ⟨⟨_, Tryd.func100, rfl, by decide +kernel⟩⟩
theorem ok_internal_stringslite_TrimPrefix : CallOk Tryd.prog 101 := ⟨⟨_, Tryd.func101, rfl, by decide +kernel⟩⟩
theorem ok_strings_trimLeftByte : CallOk Tryd.prog 102 := ⟨⟨_, Tryd.func102, rfl, by decide +kernel⟩⟩
theorem ok_strings_trimRightByte : CallOk Tryd.prog 103 := ⟨⟨_, Tryd.func103, rfl, by decide +kernel⟩⟩
theorem ok_strings_makeASCIISet : CallOk Tryd.prog 104 := ⟨⟨_, Tryd.func104, rfl, by decide +kernel⟩⟩
theorem ok_strings_trimLeftASCII : CallOk Tryd.prog 105 := ⟨⟨_, Tryd.func105, rfl, by decide +kernel⟩⟩
theorem ok_strings_trimRightASCII : CallOk Tryd.prog 106 := ⟨⟨_, Tryd.func106, rfl, by decide +kernel⟩⟩
theorem ok_strings_trimLeftUnicode : CallOk Tryd.prog 107 := ⟨⟨_, Tryd.func107, rfl, by decide +kernel⟩⟩
theorem ok_strings_trimRightUnicode : CallOk Tryd.prog 108 := ⟨⟨_, Tryd.func108, rfl, by decide +kernel⟩⟩
theorem ok_internal_stringslite_Index : CallOk Tryd.prog 109 := ⟨⟨_, Tryd.func109, rfl, by decide +kernel⟩⟩
theorem ok_internal_stringslite_HasPrefix : CallOk Tryd.prog 110 := ⟨⟨_, Tryd.func110, rfl, by decide +kernel⟩⟩
theorem ok_strings_asciiSet_contains : CallOk Tryd.prog 111 := ⟨⟨_, Tryd.func111, rfl, by decide +kernel⟩⟩
theorem ok_unicode_utf8_DecodeRuneInString : CallOk Tryd.prog 112 := ⟨⟨_, Tryd.func112, rfl, by decide +kernel⟩⟩
theorem ok_strings_ContainsRune : CallOk Tryd.prog 113 := ⟨⟨_, Tryd.func113, rfl, by decide +kernel⟩⟩
theorem ok_unicode_utf8_DecodeLastRuneInString : CallOk Tryd.prog 114 := ⟨⟨_, Tryd.func114, rfl, by decide +kernel⟩⟩
theorem ok_internal_stringslite_IndexByte : CallOk Tryd.prog 115 := ⟨⟨_, Tryd.func115, rfl, by decide +kernel⟩⟩
theorem ok_internal_bytealg_Cutover : CallOk Tryd.prog 117 := ⟨⟨_, Tryd.func117, rfl, by decide +kernel⟩⟩
theorem ok_internal_bytealg_IndexRabinKarp_string : CallOk Tryd.prog 118 := ⟨⟨_, Tryd.func118, rfl, by decide +kernel⟩⟩
theorem ok_unicode_utf8_decodeRuneInStringSlow : CallOk Tryd.prog 119 := ⟨⟨_, Tryd.func119, rfl, by decide +kernel⟩⟩
theorem ok_strings_IndexRune : CallOk Tryd.prog 120 := ⟨⟨_, Tryd.func120, rfl, by decide +kernel⟩⟩
theorem ok_unicode_utf8_RuneStart : CallOk Tryd.prog 121 := ⟨⟨_, Tryd.func121, rfl, by decide +kernel⟩⟩
theorem ok_internal_bytealg_hashStr_string : CallOk Tryd.prog 123 := ⟨⟨_, Tryd.func123, rfl, by decide +kernel⟩⟩
theorem ok_strings_IndexByte : CallOk Tryd.prog 124 := ⟨⟨_, Tryd.func124, rfl, by decide +kernel⟩⟩
theorem ok_unicode_utf8_ValidRune : CallOk Tryd.prog 125 := ⟨⟨_, Tryd.func125, rfl, by decide +kernel⟩⟩

theorem ext_internal_bytealg_IndexByteString : ExtOk Tryd.prog 122 Extern.BytealgIndexByte.indexByte := ⟨⟨_, Tryd.func122, by kernel_rfl, by kernel_rfl, by kernel_rfl, by kernel_rfl⟩⟩

def c_law03_CodePuts (C : Ctx) (p_b : Sl) (p_n : Int) (p_c : Int) (p_s : Str) (p_is : Bool) (p_v : T_api_Value) (K : Bool → Heap → Prop) (H : Heap) : Prop :=
  Spec Tryd.prog C 3 [slv p_b, .int .i64 p_n, .int .i64 p_c, sv p_s, .bool p_is, .agg (T_api_Value.c p_v).toArray] H (fun v H2 => ∃ (r0 : Bool), v = .bool r0 ∧ K r0 H2)
theorem c_law03_CodePuts.mono {C : Ctx} {p_b : Sl} {p_n : Int} {p_c : Int} {p_s : Str} {p_is : Bool} {p_v : T_api_Value} {K K2 : Bool → Heap → Prop} {H : Heap} (h : c_law03_CodePuts C p_b p_n p_c p_s p_is p_v K H) (hk : ∀ r0 H2, K r0 H2 → K2 r0 H2) : c_law03_CodePuts C p_b p_n p_c p_s p_is p_v K2 H :=
  Spec.mono h fun _ H2 ⟨r0, hv, h2⟩ => ⟨r0, hv, hk r0 H2 h2⟩
theorem c_law03_CodePuts.gh {C : Ctx} {p_b : Sl} {p_n : Int} {p_c : Int} {p_s : Str} {p_is : Bool} {p_v : T_api_Value} {K : Bool → Heap → Prop} {H : Heap} (h : c_law03_CodePuts C p_b p_n p_c p_s p_is p_v (fun r0 H2 => ∃ H0, Gh C H2 H0 ∧ K r0 H0) H) : c_law03_CodePuts C p_b p_n p_c p_s p_is p_v K H :=
  Spec.gh (Spec.mono h fun _ H2 ⟨r0, hv, H0, hg, hk⟩ => ⟨H0, hg, r0, hv, hk⟩)
def c_law03_CodeOrder (C : Ctx) (p_v : T_api_Value) (p_w : T_api_Value) (p_x : Sl) (p_y : Sl) (K : Bool → Heap → Prop) (H : Heap) : Prop :=
  Spec Tryd.prog C 4 [.agg (T_api_Value.c p_v).toArray, .agg (T_api_Value.c p_w).toArray, slv p_x, slv p_y] H (fun v H2 => ∃ (r0 : Bool), v = .bool r0 ∧ K r0 H2)
theorem c_law03_CodeOrder.mono {C : Ctx} {p_v : T_api_Value} {p_w : T_api_Value} {p_x : Sl} {p_y : Sl} {K K2 : Bool → Heap → Prop} {H : Heap} (h : c_law03_CodeOrder C p_v p_w p_x p_y K H) (hk : ∀ r0 H2, K r0 H2 → K2 r0 H2) : c_law03_CodeOrder C p_v p_w p_x p_y K2 H :=
  Spec.mono h fun _ H2 ⟨r0, hv, h2⟩ => ⟨r0, hv, hk r0 H2 h2⟩
theorem c_law03_CodeOrder.gh {C : Ctx} {p_v : T_api_Value} {p_w : T_api_Value} {p_x : Sl} {p_y : Sl} {K : Bool → Heap → Prop} {H : Heap} (h : c_law03_CodeOrder C p_v p_w p_x p_y (fun r0 H2 => ∃ H0, Gh C H2 H0 ∧ K r0 H0) H) : c_law03_CodeOrder C p_v p_w p_x p_y K H :=
  Spec.gh (Spec.mono h fun _ H2 ⟨r0, hv, H0, hg, hk⟩ => ⟨H0, hg, r0, hv, hk⟩)
def c_law03_CodeRows (C : Ctx) (p_l : Sl) (p_m : Sl) (K : Bool → Heap → Prop) (H : Heap) : Prop :=
  Spec Tryd.prog C 5 [slv p_l, slv p_m] H (fun v H2 => ∃ (r0 : Bool), v = .bool r0 ∧ K r0 H2)
theorem c_law03_CodeRows.mono {C : Ctx} {p_l : Sl} {p_m : Sl} {K K2 : Bool → Heap → Prop} {H : Heap} (h : c_law03_CodeRows C p_l p_m K H) (hk : ∀ r0 H2, K r0 H2 → K2 r0 H2) : c_law03_CodeRows C p_l p_m K2 H :=
  Spec.mono h fun _ H2 ⟨r0, hv, h2⟩ => ⟨r0, hv, hk r0 H2 h2⟩
theorem c_law03_CodeRows.gh {C : Ctx} {p_l : Sl} {p_m : Sl} {K : Bool → Heap → Prop} {H : Heap} (h : c_law03_CodeRows C p_l p_m (fun r0 H2 => ∃ H0, Gh C H2 H0 ∧ K r0 H0) H) : c_law03_CodeRows C p_l p_m K H :=
  Spec.gh (Spec.mono h fun _ H2 ⟨r0, hv, H0, hg, hk⟩ => ⟨H0, hg, r0, hv, hk⟩)
def c_law03_CodeBehind (C : Ctx) (p_b : Sl) (p_l : Sl) (p_tail : Sl) (K : Bool → Heap → Prop) (H : Heap) : Prop :=
  Spec Tryd.prog C 6 [slv p_b, slv p_l, slv p_tail] H (fun v H2 => ∃ (r0 : Bool), v = .bool r0 ∧ K r0 H2)
theorem c_law03_CodeBehind.mono {C : Ctx} {p_b : Sl} {p_l : Sl} {p_tail : Sl} {K K2 : Bool → Heap → Prop} {H : Heap} (h : c_law03_CodeBehind C p_b p_l p_tail K H) (hk : ∀ r0 H2, K r0 H2 → K2 r0 H2) : c_law03_CodeBehind C p_b p_l p_tail K2 H :=
  Spec.mono h fun _ H2 ⟨r0, hv, h2⟩ => ⟨r0, hv, hk r0 H2 h2⟩
theorem c_law03_CodeBehind.gh {C : Ctx} {p_b : Sl} {p_l : Sl} {p_tail : Sl} {K : Bool → Heap → Prop} {H : Heap} (h : c_law03_CodeBehind C p_b p_l p_tail (fun r0 H2 => ∃ H0, Gh C H2 H0 ∧ K r0 H0) H) : c_law03_CodeBehind C p_b p_l p_tail K H :=
  Spec.gh (Spec.mono h fun _ H2 ⟨r0, hv, H0, hg, hk⟩ => ⟨H0, hg, r0, hv, hk⟩)
def c_law03_CodeNames (C : Ctx) (K : Bool → Heap → Prop) (H : Heap) : Prop :=
  Spec Tryd.prog C 7 [] H (fun v H2 => ∃ (r0 : Bool), v = .bool r0 ∧ K r0 H2)
theorem c_law03_CodeNames.mono {C : Ctx} {K K2 : Bool → Heap → Prop} {H : Heap} (h : c_law03_CodeNames C  K H) (hk : ∀ r0 H2, K r0 H2 → K2 r0 H2) : c_law03_CodeNames C  K2 H :=
  Spec.mono h fun _ H2 ⟨r0, hv, h2⟩ => ⟨r0, hv, hk r0 H2 h2⟩
theorem c_law03_CodeNames.gh {C : Ctx} {K : Bool → Heap → Prop} {H : Heap} (h : c_law03_CodeNames C  (fun r0 H2 => ∃ H0, Gh C H2 H0 ∧ K r0 H0) H) : c_law03_CodeNames C  K H :=
  Spec.gh (Spec.mono h fun _ H2 ⟨r0, hv, H0, hg, hk⟩ => ⟨H0, hg, r0, hv, hk⟩)
def c_law03_CodeApart (C : Ctx) (p_v : T_api_Value) (p_w : T_api_Value) (p_k : Int) (p_tail : Sl) (K : Bool → Heap → Prop) (H : Heap) : Prop :=
  Spec Tryd.prog C 8 [.agg (T_api_Value.c p_v).toArray, .agg (T_api_Value.c p_w).toArray, .int .i64 p_k, slv p_tail] H (fun v H2 => ∃ (r0 : Bool), v = .bool r0 ∧ K r0 H2)
theorem c_law03_CodeApart.mono {C : Ctx} {p_v : T_api_Value} {p_w : T_api_Value} {p_k : Int} {p_tail : Sl} {K K2 : Bool → Heap → Prop} {H : Heap} (h : c_law03_CodeApart C p_v p_w p_k p_tail K H) (hk : ∀ r0 H2, K r0 H2 → K2 r0 H2) : c_law03_CodeApart C p_v p_w p_k p_tail K2 H :=
  Spec.mono h fun _ H2 ⟨r0, hv, h2⟩ => ⟨r0, hv, hk r0 H2 h2⟩
theorem c_law03_CodeApart.gh {C : Ctx} {p_v : T_api_Value} {p_w : T_api_Value} {p_k : Int} {p_tail : Sl} {K : Bool → Heap → Prop} {H : Heap} (h : c_law03_CodeApart C p_v p_w p_k p_tail (fun r0 H2 => ∃ H0, Gh C H2 H0 ∧ K r0 H0) H) : c_law03_CodeApart C p_v p_w p_k p_tail K H :=
  Spec.gh (Spec.mono h fun _ H2 ⟨r0, hv, H0, hg, hk⟩ => ⟨H0, hg, r0, hv, hk⟩)
def c_law03_CodeAmong (C : Ctx) (p_b : Sl) (p_v : T_api_Value) (K : Bool → Heap → Prop) (H : Heap) : Prop :=
  Spec Tryd.prog C 9 [slv p_b, .agg (T_api_Value.c p_v).toArray] H (fun v H2 => ∃ (r0 : Bool), v = .bool r0 ∧ K r0 H2)
theorem c_law03_CodeAmong.mono {C : Ctx} {p_b : Sl} {p_v : T_api_Value} {K K2 : Bool → Heap → Prop} {H : Heap} (h : c_law03_CodeAmong C p_b p_v K H) (hk : ∀ r0 H2, K r0 H2 → K2 r0 H2) : c_law03_CodeAmong C p_b p_v K2 H :=
  Spec.mono h fun _ H2 ⟨r0, hv, h2⟩ => ⟨r0, hv, hk r0 H2 h2⟩
theorem c_law03_CodeAmong.gh {C : Ctx} {p_b : Sl} {p_v : T_api_Value} {K : Bool → Heap → Prop} {H : Heap} (h : c_law03_CodeAmong C p_b p_v (fun r0 H2 => ∃ H0, Gh C H2 H0 ∧ K r0 H0) H) : c_law03_CodeAmong C p_b p_v K H :=
  Spec.gh (Spec.mono h fun _ H2 ⟨r0, hv, H0, hg, hk⟩ => ⟨H0, hg, r0, hv, hk⟩)
def c_law03_wide (C : Ctx) (p_v : T_api_Value) (K : Bool → Heap → Prop) (H : Heap) : Prop :=
  Spec Tryd.prog C 10 [.agg (T_api_Value.c p_v).toArray] H (fun v H2 => ∃ (r0 : Bool), v = .bool r0 ∧ K r0 H2)
theorem c_law03_wide.mono {C : Ctx} {p_v : T_api_Value} {K K2 : Bool → Heap → Prop} {H : Heap} (h : c_law03_wide C p_v K H) (hk : ∀ r0 H2, K r0 H2 → K2 r0 H2) : c_law03_wide C p_v K2 H :=
  Spec.mono h fun _ H2 ⟨r0, hv, h2⟩ => ⟨r0, hv, hk r0 H2 h2⟩
theorem c_law03_wide.gh {C : Ctx} {p_v : T_api_Value} {K : Bool → Heap → Prop} {H : Heap} (h : c_law03_wide C p_v (fun r0 H2 => ∃ H0, Gh C H2 H0 ∧ K r0 H0) H) : c_law03_wide C p_v K H :=
  Spec.gh (Spec.mono h fun _ H2 ⟨r0, hv, H0, hg, hk⟩ => ⟨H0, hg, r0, hv, hk⟩)
def c_law03_works (C : Ctx) (K : Bool → Heap → Prop) (H : Heap) : Prop :=
  Spec Tryd.prog C 11 [] H (fun v H2 => ∃ (r0 : Bool), v = .bool r0 ∧ K r0 H2)
theorem c_law03_works.mono {C : Ctx} {K K2 : Bool → Heap → Prop} {H : Heap} (h : c_law03_works C  K H) (hk : ∀ r0 H2, K r0 H2 → K2 r0 H2) : c_law03_works C  K2 H :=
  Spec.mono h fun _ H2 ⟨r0, hv, h2⟩ => ⟨r0, hv, hk r0 H2 h2⟩
theorem c_law03_works.gh {C : Ctx} {K : Bool → Heap → Prop} {H : Heap} (h : c_law03_works C  (fun r0 H2 => ∃ H0, Gh C H2 H0 ∧ K r0 H0) H) : c_law03_works C  K H :=
  Spec.gh (Spec.mono h fun _ H2 ⟨r0, hv, H0, hg, hk⟩ => ⟨H0, hg, r0, hv, hk⟩)
def c_law03_put (C : Ctx) (p_got : Sl) (p_want : Sl) (K : Bool → Heap → Prop) (H : Heap) : Prop :=
  Spec Tryd.prog C 12 [slv p_got, slv p_want] H (fun v H2 => ∃ (r0 : Bool), v = .bool r0 ∧ K r0 H2)
theorem c_law03_put.mono {C : Ctx} {p_got : Sl} {p_want : Sl} {K K2 : Bool → Heap → Prop} {H : Heap} (h : c_law03_put C p_got p_want K H) (hk : ∀ r0 H2, K r0 H2 → K2 r0 H2) : c_law03_put C p_got p_want K2 H :=
  Spec.mono h fun _ H2 ⟨r0, hv, h2⟩ => ⟨r0, hv, hk r0 H2 h2⟩
theorem c_law03_put.gh {C : Ctx} {p_got : Sl} {p_want : Sl} {K : Bool → Heap → Prop} {H : Heap} (h : c_law03_put C p_got p_want (fun r0 H2 => ∃ H0, Gh C H2 H0 ∧ K r0 H0) H) : c_law03_put C p_got p_want K H :=
  Spec.gh (Spec.mono h fun _ H2 ⟨r0, hv, H0, hg, hk⟩ => ⟨H0, hg, r0, hv, hk⟩)
def c_code_Num (C : Ctx) (p_b : Sl) (p_n : Int) (K : Sl → Heap → Prop) (H : Heap) : Prop :=
  Spec Tryd.prog C 13 [slv p_b, .int .i64 p_n] H (fun v H2 => ∃ (r0 : Sl), v = slv r0 ∧ K r0 H2)
theorem c_code_Num.mono {C : Ctx} {p_b : Sl} {p_n : Int} {K K2 : Sl → Heap → Prop} {H : Heap} (h : c_code_Num C p_b p_n K H) (hk : ∀ r0 H2, K r0 H2 → K2 r0 H2) : c_code_Num C p_b p_n K2 H :=
  Spec.mono h fun _ H2 ⟨r0, hv, h2⟩ => ⟨r0, hv, hk r0 H2 h2⟩
theorem c_code_Num.gh {C : Ctx} {p_b : Sl} {p_n : Int} {K : Sl → Heap → Prop} {H : Heap} (h : c_code_Num C p_b p_n (fun r0 H2 => ∃ H0, Gh C H2 H0 ∧ K r0 H0) H) : c_code_Num C p_b p_n K H :=
  Spec.gh (Spec.mono h fun _ H2 ⟨r0, hv, H0, hg, hk⟩ => ⟨H0, hg, r0, hv, hk⟩)
def c_ref03_Num (C : Ctx) (p_b : Sl) (p_n : Int) (K : Sl → Heap → Prop) (H : Heap) : Prop :=
  Spec Tryd.prog C 14 [slv p_b, .int .i64 p_n] H (fun v H2 => ∃ (r0 : Sl), v = slv r0 ∧ K r0 H2)
theorem c_ref03_Num.mono {C : Ctx} {p_b : Sl} {p_n : Int} {K K2 : Sl → Heap → Prop} {H : Heap} (h : c_ref03_Num C p_b p_n K H) (hk : ∀ r0 H2, K r0 H2 → K2 r0 H2) : c_ref03_Num C p_b p_n K2 H :=
  Spec.mono h fun _ H2 ⟨r0, hv, h2⟩ => ⟨r0, hv, hk r0 H2 h2⟩
theorem c_ref03_Num.gh {C : Ctx} {p_b : Sl} {p_n : Int} {K : Sl → Heap → Prop} {H : Heap} (h : c_ref03_Num C p_b p_n (fun r0 H2 => ∃ H0, Gh C H2 H0 ∧ K r0 H0) H) : c_ref03_Num C p_b p_n K H :=
  Spec.gh (Spec.mono h fun _ H2 ⟨r0, hv, H0, hg, hk⟩ => ⟨H0, hg, r0, hv, hk⟩)
def c_code_Count (C : Ctx) (p_b : Sl) (p_n : Int) (K : Sl → Heap → Prop) (H : Heap) : Prop :=
  Spec Tryd.prog C 15 [slv p_b, .int .i64 p_n] H (fun v H2 => ∃ (r0 : Sl), v = slv r0 ∧ K r0 H2)
theorem c_code_Count.mono {C : Ctx} {p_b : Sl} {p_n : Int} {K K2 : Sl → Heap → Prop} {H : Heap} (h : c_code_Count C p_b p_n K H) (hk : ∀ r0 H2, K r0 H2 → K2 r0 H2) : c_code_Count C p_b p_n K2 H :=
  Spec.mono h fun _ H2 ⟨r0, hv, h2⟩ => ⟨r0, hv, hk r0 H2 h2⟩
theorem c_code_Count.gh {C : Ctx} {p_b : Sl} {p_n : Int} {K : Sl → Heap → Prop} {H : Heap} (h : c_code_Count C p_b p_n (fun r0 H2 => ∃ H0, Gh C H2 H0 ∧ K r0 H0) H) : c_code_Count C p_b p_n K H :=
  Spec.gh (Spec.mono h fun _ H2 ⟨r0, hv, H0, hg, hk⟩ => ⟨H0, hg, r0, hv, hk⟩)
def c_ref03_Count (C : Ctx) (p_b : Sl) (p_n : Int) (K : Sl → Heap → Prop) (H : Heap) : Prop :=
  Spec Tryd.prog C 16 [slv p_b, .int .i64 p_n] H (fun v H2 => ∃ (r0 : Sl), v = slv r0 ∧ K r0 H2)
theorem c_ref03_Count.mono {C : Ctx} {p_b : Sl} {p_n : Int} {K K2 : Sl → Heap → Prop} {H : Heap} (h : c_ref03_Count C p_b p_n K H) (hk : ∀ r0 H2, K r0 H2 → K2 r0 H2) : c_ref03_Count C p_b p_n K2 H :=
  Spec.mono h fun _ H2 ⟨r0, hv, h2⟩ => ⟨r0, hv, hk r0 H2 h2⟩
theorem c_ref03_Count.gh {C : Ctx} {p_b : Sl} {p_n : Int} {K : Sl → Heap → Prop} {H : Heap} (h : c_ref03_Count C p_b p_n (fun r0 H2 => ∃ H0, Gh C H2 H0 ∧ K r0 H0) H) : c_ref03_Count C p_b p_n K H :=
  Spec.gh (Spec.mono h fun _ H2 ⟨r0, hv, H0, hg, hk⟩ => ⟨H0, hg, r0, hv, hk⟩)
def c_code_Str (C : Ctx) (p_b : Sl) (p_s : Str) (K : Sl → Heap → Prop) (H : Heap) : Prop :=
  Spec Tryd.prog C 17 [slv p_b, sv p_s] H (fun v H2 => ∃ (r0 : Sl), v = slv r0 ∧ K r0 H2)
theorem c_code_Str.mono {C : Ctx} {p_b : Sl} {p_s : Str} {K K2 : Sl → Heap → Prop} {H : Heap} (h : c_code_Str C p_b p_s K H) (hk : ∀ r0 H2, K r0 H2 → K2 r0 H2) : c_code_Str C p_b p_s K2 H :=
  Spec.mono h fun _ H2 ⟨r0, hv, h2⟩ => ⟨r0, hv, hk r0 H2 h2⟩
theorem c_code_Str.gh {C : Ctx} {p_b : Sl} {p_s : Str} {K : Sl → Heap → Prop} {H : Heap} (h : c_code_Str C p_b p_s (fun r0 H2 => ∃ H0, Gh C H2 H0 ∧ K r0 H0) H) : c_code_Str C p_b p_s K H :=
  Spec.gh (Spec.mono h fun _ H2 ⟨r0, hv, H0, hg, hk⟩ => ⟨H0, hg, r0, hv, hk⟩)
def c_ref03_Str (C : Ctx) (p_b : Sl) (p_s : Str) (K : Sl → Heap → Prop) (H : Heap) : Prop :=
  Spec Tryd.prog C 18 [slv p_b, sv p_s] H (fun v H2 => ∃ (r0 : Sl), v = slv r0 ∧ K r0 H2)
theorem c_ref03_Str.mono {C : Ctx} {p_b : Sl} {p_s : Str} {K K2 : Sl → Heap → Prop} {H : Heap} (h : c_ref03_Str C p_b p_s K H) (hk : ∀ r0 H2, K r0 H2 → K2 r0 H2) : c_ref03_Str C p_b p_s K2 H :=
  Spec.mono h fun _ H2 ⟨r0, hv, h2⟩ => ⟨r0, hv, hk r0 H2 h2⟩
theorem c_ref03_Str.gh {C : Ctx} {p_b : Sl} {p_s : Str} {K : Sl → Heap → Prop} {H : Heap} (h : c_ref03_Str C p_b p_s (fun r0 H2 => ∃ H0, Gh C H2 H0 ∧ K r0 H0) H) : c_ref03_Str C p_b p_s K H :=
  Spec.gh (Spec.mono h fun _ H2 ⟨r0, hv, H0, hg, hk⟩ => ⟨H0, hg, r0, hv, hk⟩)
def c_code_Flag (C : Ctx) (p_b : Sl) (p_v : Bool) (K : Sl → Heap → Prop) (H : Heap) : Prop :=
  Spec Tryd.prog C 19 [slv p_b, .bool p_v] H (fun v H2 => ∃ (r0 : Sl), v = slv r0 ∧ K r0 H2)
theorem c_code_Flag.mono {C : Ctx} {p_b : Sl} {p_v : Bool} {K K2 : Sl → Heap → Prop} {H : Heap} (h : c_code_Flag C p_b p_v K H) (hk : ∀ r0 H2, K r0 H2 → K2 r0 H2) : c_code_Flag C p_b p_v K2 H :=
  Spec.mono h fun _ H2 ⟨r0, hv, h2⟩ => ⟨r0, hv, hk r0 H2 h2⟩
theorem c_code_Flag.gh {C : Ctx} {p_b : Sl} {p_v : Bool} {K : Sl → Heap → Prop} {H : Heap} (h : c_code_Flag C p_b p_v (fun r0 H2 => ∃ H0, Gh C H2 H0 ∧ K r0 H0) H) : c_code_Flag C p_b p_v K H :=
  Spec.gh (Spec.mono h fun _ H2 ⟨r0, hv, H0, hg, hk⟩ => ⟨H0, hg, r0, hv, hk⟩)
def c_ref03_Flag (C : Ctx) (p_b : Sl) (p_v : Bool) (K : Sl → Heap → Prop) (H : Heap) : Prop :=
  Spec Tryd.prog C 20 [slv p_b, .bool p_v] H (fun v H2 => ∃ (r0 : Sl), v = slv r0 ∧ K r0 H2)
theorem c_ref03_Flag.mono {C : Ctx} {p_b : Sl} {p_v : Bool} {K K2 : Sl → Heap → Prop} {H : Heap} (h : c_ref03_Flag C p_b p_v K H) (hk : ∀ r0 H2, K r0 H2 → K2 r0 H2) : c_ref03_Flag C p_b p_v K2 H :=
  Spec.mono h fun _ H2 ⟨r0, hv, h2⟩ => ⟨r0, hv, hk r0 H2 h2⟩
theorem c_ref03_Flag.gh {C : Ctx} {p_b : Sl} {p_v : Bool} {K : Sl → Heap → Prop} {H : Heap} (h : c_ref03_Flag C p_b p_v (fun r0 H2 => ∃ H0, Gh C H2 H0 ∧ K r0 H0) H) : c_ref03_Flag C p_b p_v K H :=
  Spec.gh (Spec.mono h fun _ H2 ⟨r0, hv, H0, hg, hk⟩ => ⟨H0, hg, r0, hv, hk⟩)
def c_code_Value (C : Ctx) (p_b : Sl) (p_v : T_api_Value) (K : Sl → Heap → Prop) (H : Heap) : Prop :=
  Spec Tryd.prog C 21 [slv p_b, .agg (T_api_Value.c p_v).toArray] H (fun v H2 => ∃ (r0 : Sl), v = slv r0 ∧ K r0 H2)
theorem c_code_Value.mono {C : Ctx} {p_b : Sl} {p_v : T_api_Value} {K K2 : Sl → Heap → Prop} {H : Heap} (h : c_code_Value C p_b p_v K H) (hk : ∀ r0 H2, K r0 H2 → K2 r0 H2) : c_code_Value C p_b p_v K2 H :=
  Spec.mono h fun _ H2 ⟨r0, hv, h2⟩ => ⟨r0, hv, hk r0 H2 h2⟩
theorem c_code_Value.gh {C : Ctx} {p_b : Sl} {p_v : T_api_Value} {K : Sl → Heap → Prop} {H : Heap} (h : c_code_Value C p_b p_v (fun r0 H2 => ∃ H0, Gh C H2 H0 ∧ K r0 H0) H) : c_code_Value C p_b p_v K H :=
  Spec.gh (Spec.mono h fun _ H2 ⟨r0, hv, H0, hg, hk⟩ => ⟨H0, hg, r0, hv, hk⟩)
def c_ref03_Value (C : Ctx) (p_b : Sl) (p_v : T_api_Value) (K : Sl → Heap → Prop) (H : Heap) : Prop :=
  Spec Tryd.prog C 22 [slv p_b, .agg (T_api_Value.c p_v).toArray] H (fun v H2 => ∃ (r0 : Sl), v = slv r0 ∧ K r0 H2)
theorem c_ref03_Value.mono {C : Ctx} {p_b : Sl} {p_v : T_api_Value} {K K2 : Sl → Heap → Prop} {H : Heap} (h : c_ref03_Value C p_b p_v K H) (hk : ∀ r0 H2, K r0 H2 → K2 r0 H2) : c_ref03_Value C p_b p_v K2 H :=
  Spec.mono h fun _ H2 ⟨r0, hv, h2⟩ => ⟨r0, hv, hk r0 H2 h2⟩
theorem c_ref03_Value.gh {C : Ctx} {p_b : Sl} {p_v : T_api_Value} {K : Sl → Heap → Prop} {H : Heap} (h : c_ref03_Value C p_b p_v (fun r0 H2 => ∃ H0, Gh C H2 H0 ∧ K r0 H0) H) : c_ref03_Value C p_b p_v K H :=
  Spec.gh (Spec.mono h fun _ H2 ⟨r0, hv, H0, hg, hk⟩ => ⟨H0, hg, r0, hv, hk⟩)
def c_ref02_Cmp (C : Ctx) (p_a : T_api_Value) (p_b : T_api_Value) (K : Int → Heap → Prop) (H : Heap) : Prop :=
  Spec Tryd.prog C 23 [.agg (T_api_Value.c p_a).toArray, .agg (T_api_Value.c p_b).toArray] H (fun v H2 => ∃ (r0 : Int), v = .int .i64 r0 ∧ K r0 H2)
theorem c_ref02_Cmp.mono {C : Ctx} {p_a : T_api_Value} {p_b : T_api_Value} {K K2 : Int → Heap → Prop} {H : Heap} (h : c_ref02_Cmp C p_a p_b K H) (hk : ∀ r0 H2, K r0 H2 → K2 r0 H2) : c_ref02_Cmp C p_a p_b K2 H :=
  Spec.mono h fun _ H2 ⟨r0, hv, h2⟩ => ⟨r0, hv, hk r0 H2 h2⟩
theorem c_ref02_Cmp.gh {C : Ctx} {p_a : T_api_Value} {p_b : T_api_Value} {K : Int → Heap → Prop} {H : Heap} (h : c_ref02_Cmp C p_a p_b (fun r0 H2 => ∃ H0, Gh C H2 H0 ∧ K r0 H0) H) : c_ref02_Cmp C p_a p_b K H :=
  Spec.gh (Spec.mono h fun _ H2 ⟨r0, hv, H0, hg, hk⟩ => ⟨H0, hg, r0, hv, hk⟩)
def c_law03_stands (C : Ctx) (p_a : Sl) (p_b : Sl) (K : Int → Heap → Prop) (H : Heap) : Prop :=
  Spec Tryd.prog C 24 [slv p_a, slv p_b] H (fun v H2 => ∃ (r0 : Int), v = .int .i64 r0 ∧ K r0 H2)
theorem c_law03_stands.mono {C : Ctx} {p_a : Sl} {p_b : Sl} {K K2 : Int → Heap → Prop} {H : Heap} (h : c_law03_stands C p_a p_b K H) (hk : ∀ r0 H2, K r0 H2 → K2 r0 H2) : c_law03_stands C p_a p_b K2 H :=
  Spec.mono h fun _ H2 ⟨r0, hv, h2⟩ => ⟨r0, hv, hk r0 H2 h2⟩
theorem c_law03_stands.gh {C : Ctx} {p_a : Sl} {p_b : Sl} {K : Int → Heap → Prop} {H : Heap} (h : c_law03_stands C p_a p_b (fun r0 H2 => ∃ H0, Gh C H2 H0 ∧ K r0 H0) H) : c_law03_stands C p_a p_b K H :=
  Spec.gh (Spec.mono h fun _ H2 ⟨r0, hv, H0, hg, hk⟩ => ⟨H0, hg, r0, hv, hk⟩)
def c_law03_behind (C : Ctx) (p_a : Sl) (p_b : Sl) (K : Sl → Heap → Prop) (H : Heap) : Prop :=
  Spec Tryd.prog C 25 [slv p_a, slv p_b] H (fun v H2 => ∃ (r0 : Sl), v = slv r0 ∧ K r0 H2)
theorem c_law03_behind.mono {C : Ctx} {p_a : Sl} {p_b : Sl} {K K2 : Sl → Heap → Prop} {H : Heap} (h : c_law03_behind C p_a p_b K H) (hk : ∀ r0 H2, K r0 H2 → K2 r0 H2) : c_law03_behind C p_a p_b K2 H :=
  Spec.mono h fun _ H2 ⟨r0, hv, h2⟩ => ⟨r0, hv, hk r0 H2 h2⟩
theorem c_law03_behind.gh {C : Ctx} {p_a : Sl} {p_b : Sl} {K : Sl → Heap → Prop} {H : Heap} (h : c_law03_behind C p_a p_b (fun r0 H2 => ∃ H0, Gh C H2 H0 ∧ K r0 H0) H) : c_law03_behind C p_a p_b K H :=
  Spec.gh (Spec.mono h fun _ H2 ⟨r0, hv, H0, hg, hk⟩ => ⟨H0, hg, r0, hv, hk⟩)
def c_ref02_Check (C : Ctx) (p_v : T_api_Value) (K : Int → Heap → Prop) (H : Heap) : Prop :=
  Spec Tryd.prog C 26 [.agg (T_api_Value.c p_v).toArray] H (fun v H2 => ∃ (r0 : Int), v = .int .i64 r0 ∧ K r0 H2)
theorem c_ref02_Check.mono {C : Ctx} {p_v : T_api_Value} {K K2 : Int → Heap → Prop} {H : Heap} (h : c_ref02_Check C p_v K H) (hk : ∀ r0 H2, K r0 H2 → K2 r0 H2) : c_ref02_Check C p_v K2 H :=
  Spec.mono h fun _ H2 ⟨r0, hv, h2⟩ => ⟨r0, hv, hk r0 H2 h2⟩
theorem c_ref02_Check.gh {C : Ctx} {p_v : T_api_Value} {K : Int → Heap → Prop} {H : Heap} (h : c_ref02_Check C p_v (fun r0 H2 => ∃ H0, Gh C H2 H0 ∧ K r0 H0) H) : c_ref02_Check C p_v K H :=
  Spec.gh (Spec.mono h fun _ H2 ⟨r0, hv, H0, hg, hk⟩ => ⟨H0, hg, r0, hv, hk⟩)
def c_ref02_CmpRows (C : Ctx) (p_a : Sl) (p_b : Sl) (K : Int → Heap → Prop) (H : Heap) : Prop :=
  Spec Tryd.prog C 27 [slv p_a, slv p_b] H (fun v H2 => ∃ (r0 : Int), v = .int .i64 r0 ∧ K r0 H2)
theorem c_ref02_CmpRows.mono {C : Ctx} {p_a : Sl} {p_b : Sl} {K K2 : Int → Heap → Prop} {H : Heap} (h : c_ref02_CmpRows C p_a p_b K H) (hk : ∀ r0 H2, K r0 H2 → K2 r0 H2) : c_ref02_CmpRows C p_a p_b K2 H :=
  Spec.mono h fun _ H2 ⟨r0, hv, h2⟩ => ⟨r0, hv, hk r0 H2 h2⟩
theorem c_ref02_CmpRows.gh {C : Ctx} {p_a : Sl} {p_b : Sl} {K : Int → Heap → Prop} {H : Heap} (h : c_ref02_CmpRows C p_a p_b (fun r0 H2 => ∃ H0, Gh C H2 H0 ∧ K r0 H0) H) : c_ref02_CmpRows C p_a p_b K H :=
  Spec.gh (Spec.mono h fun _ H2 ⟨r0, hv, H0, hg, hk⟩ => ⟨H0, hg, r0, hv, hk⟩)
def c_code_NewReader (C : Ctx) (p_b : Sl) (K : Option (Nat × Nat) → Heap → Prop) (H : Heap) : Prop :=
  Spec Tryd.prog C 28 [slv p_b] H (fun v H2 => ∃ (r0 : Option (Nat × Nat)), v = pv r0 ∧ K r0 H2)
theorem c_code_NewReader.mono {C : Ctx} {p_b : Sl} {K K2 : Option (Nat × Nat) → Heap → Prop} {H : Heap} (h : c_code_NewReader C p_b K H) (hk : ∀ r0 H2, K r0 H2 → K2 r0 H2) : c_code_NewReader C p_b K2 H :=
  Spec.mono h fun _ H2 ⟨r0, hv, h2⟩ => ⟨r0, hv, hk r0 H2 h2⟩
theorem c_code_NewReader.gh {C : Ctx} {p_b : Sl} {K : Option (Nat × Nat) → Heap → Prop} {H : Heap} (h : c_code_NewReader C p_b (fun r0 H2 => ∃ H0, Gh C H2 H0 ∧ K r0 H0) H) : c_code_NewReader C p_b K H :=
  Spec.gh (Spec.mono h fun _ H2 ⟨r0, hv, H0, hg, hk⟩ => ⟨H0, hg, r0, hv, hk⟩)
def c_law03_Ask_of (C : Ctx) (p_a : T_law03_Ask) (p_r : Option (Nat × Nat)) (K : T_law03_told → Heap → Prop) (H : Heap) : Prop :=
  Spec Tryd.prog C 29 [.agg (T_law03_Ask.c p_a).toArray, pv p_r] H (fun v H2 => ∃ (r0 : T_law03_told), v = .agg (T_law03_told.c r0).toArray ∧ K r0 H2)
theorem c_law03_Ask_of.mono {C : Ctx} {p_a : T_law03_Ask} {p_r : Option (Nat × Nat)} {K K2 : T_law03_told → Heap → Prop} {H : Heap} (h : c_law03_Ask_of C p_a p_r K H) (hk : ∀ r0 H2, K r0 H2 → K2 r0 H2) : c_law03_Ask_of C p_a p_r K2 H :=
  Spec.mono h fun _ H2 ⟨r0, hv, h2⟩ => ⟨r0, hv, hk r0 H2 h2⟩
theorem c_law03_Ask_of.gh {C : Ctx} {p_a : T_law03_Ask} {p_r : Option (Nat × Nat)} {K : T_law03_told → Heap → Prop} {H : Heap} (h : c_law03_Ask_of C p_a p_r (fun r0 H2 => ∃ H0, Gh C H2 H0 ∧ K r0 H0) H) : c_law03_Ask_of C p_a p_r K H :=
  Spec.gh (Spec.mono h fun _ H2 ⟨r0, hv, H0, hg, hk⟩ => ⟨H0, hg, r0, hv, hk⟩)
def c_code_Reader_Left (C : Ctx) (p_r : Option (Nat × Nat)) (K : Int → Heap → Prop) (H : Heap) : Prop :=
  Spec Tryd.prog C 30 [pv p_r] H (fun v H2 => ∃ (r0 : Int), v = .int .i64 r0 ∧ K r0 H2)
theorem c_code_Reader_Left.mono {C : Ctx} {p_r : Option (Nat × Nat)} {K K2 : Int → Heap → Prop} {H : Heap} (h : c_code_Reader_Left C p_r K H) (hk : ∀ r0 H2, K r0 H2 → K2 r0 H2) : c_code_Reader_Left C p_r K2 H :=
  Spec.mono h fun _ H2 ⟨r0, hv, h2⟩ => ⟨r0, hv, hk r0 H2 h2⟩
theorem c_code_Reader_Left.gh {C : Ctx} {p_r : Option (Nat × Nat)} {K : Int → Heap → Prop} {H : Heap} (h : c_code_Reader_Left C p_r (fun r0 H2 => ∃ H0, Gh C H2 H0 ∧ K r0 H0) H) : c_code_Reader_Left C p_r K H :=
  Spec.gh (Spec.mono h fun _ H2 ⟨r0, hv, H0, hg, hk⟩ => ⟨H0, hg, r0, hv, hk⟩)
def c_law03_told_same (C : Ctx) (p_t : T_law03_told) (p_o : T_law03_told) (K : Bool → Heap → Prop) (H : Heap) : Prop :=
  Spec Tryd.prog C 31 [.agg (T_law03_told.c p_t).toArray, .agg (T_law03_told.c p_o).toArray] H (fun v H2 => ∃ (r0 : Bool), v = .bool r0 ∧ K r0 H2)
theorem c_law03_told_same.mono {C : Ctx} {p_t : T_law03_told} {p_o : T_law03_told} {K K2 : Bool → Heap → Prop} {H : Heap} (h : c_law03_told_same C p_t p_o K H) (hk : ∀ r0 H2, K r0 H2 → K2 r0 H2) : c_law03_told_same C p_t p_o K2 H :=
  Spec.mono h fun _ H2 ⟨r0, hv, h2⟩ => ⟨r0, hv, hk r0 H2 h2⟩
theorem c_law03_told_same.gh {C : Ctx} {p_t : T_law03_told} {p_o : T_law03_told} {K : Bool → Heap → Prop} {H : Heap} (h : c_law03_told_same C p_t p_o (fun r0 H2 => ∃ H0, Gh C H2 H0 ∧ K r0 H0) H) : c_law03_told_same C p_t p_o K H :=
  Spec.gh (Spec.mono h fun _ H2 ⟨r0, hv, H0, hg, hk⟩ => ⟨H0, hg, r0, hv, hk⟩)
def c_code_Reader_Done (C : Ctx) (p_r : Option (Nat × Nat)) (K : Bool → Heap → Prop) (H : Heap) : Prop :=
  Spec Tryd.prog C 32 [pv p_r] H (fun v H2 => ∃ (r0 : Bool), v = .bool r0 ∧ K r0 H2)
theorem c_code_Reader_Done.mono {C : Ctx} {p_r : Option (Nat × Nat)} {K K2 : Bool → Heap → Prop} {H : Heap} (h : c_code_Reader_Done C p_r K H) (hk : ∀ r0 H2, K r0 H2 → K2 r0 H2) : c_code_Reader_Done C p_r K2 H :=
  Spec.mono h fun _ H2 ⟨r0, hv, h2⟩ => ⟨r0, hv, hk r0 H2 h2⟩
theorem c_code_Reader_Done.gh {C : Ctx} {p_r : Option (Nat × Nat)} {K : Bool → Heap → Prop} {H : Heap} (h : c_code_Reader_Done C p_r (fun r0 H2 => ∃ H0, Gh C H2 H0 ∧ K r0 H0) H) : c_code_Reader_Done C p_r K H :=
  Spec.gh (Spec.mono h fun _ H2 ⟨r0, hv, H0, hg, hk⟩ => ⟨H0, hg, r0, hv, hk⟩)
def c_code_Reader_Num (C : Ctx) (p_r : Option (Nat × Nat)) (K : Int → Heap → Prop) (H : Heap) : Prop :=
  Spec Tryd.prog C 33 [pv p_r] H (fun v H2 => ∃ (r0 : Int), v = .int .i64 r0 ∧ K r0 H2)
theorem c_code_Reader_Num.mono {C : Ctx} {p_r : Option (Nat × Nat)} {K K2 : Int → Heap → Prop} {H : Heap} (h : c_code_Reader_Num C p_r K H) (hk : ∀ r0 H2, K r0 H2 → K2 r0 H2) : c_code_Reader_Num C p_r K2 H :=
  Spec.mono h fun _ H2 ⟨r0, hv, h2⟩ => ⟨r0, hv, hk r0 H2 h2⟩
theorem c_code_Reader_Num.gh {C : Ctx} {p_r : Option (Nat × Nat)} {K : Int → Heap → Prop} {H : Heap} (h : c_code_Reader_Num C p_r (fun r0 H2 => ∃ H0, Gh C H2 H0 ∧ K r0 H0) H) : c_code_Reader_Num C p_r K H :=
  Spec.gh (Spec.mono h fun _ H2 ⟨r0, hv, H0, hg, hk⟩ => ⟨H0, hg, r0, hv, hk⟩)
def c_code_Reader_Str (C : Ctx) (p_r : Option (Nat × Nat)) (p_most : Int) (K : Str → Heap → Prop) (H : Heap) : Prop :=
  Spec Tryd.prog C 34 [pv p_r, .int .i64 p_most] H (fun v H2 => ∃ (r0 : Str), v = sv r0 ∧ K r0 H2)
theorem c_code_Reader_Str.mono {C : Ctx} {p_r : Option (Nat × Nat)} {p_most : Int} {K K2 : Str → Heap → Prop} {H : Heap} (h : c_code_Reader_Str C p_r p_most K H) (hk : ∀ r0 H2, K r0 H2 → K2 r0 H2) : c_code_Reader_Str C p_r p_most K2 H :=
  Spec.mono h fun _ H2 ⟨r0, hv, h2⟩ => ⟨r0, hv, hk r0 H2 h2⟩
theorem c_code_Reader_Str.gh {C : Ctx} {p_r : Option (Nat × Nat)} {p_most : Int} {K : Str → Heap → Prop} {H : Heap} (h : c_code_Reader_Str C p_r p_most (fun r0 H2 => ∃ H0, Gh C H2 H0 ∧ K r0 H0) H) : c_code_Reader_Str C p_r p_most K H :=
  Spec.gh (Spec.mono h fun _ H2 ⟨r0, hv, H0, hg, hk⟩ => ⟨H0, hg, r0, hv, hk⟩)
def c_law03_tuple (C : Ctx) (p_l : Sl) (K : T_api_Value → Heap → Prop) (H : Heap) : Prop :=
  Spec Tryd.prog C 35 [slv p_l] H (fun v H2 => ∃ (r0 : T_api_Value), v = .agg (T_api_Value.c r0).toArray ∧ K r0 H2)
theorem c_law03_tuple.mono {C : Ctx} {p_l : Sl} {K K2 : T_api_Value → Heap → Prop} {H : Heap} (h : c_law03_tuple C p_l K H) (hk : ∀ r0 H2, K r0 H2 → K2 r0 H2) : c_law03_tuple C p_l K2 H :=
  Spec.mono h fun _ H2 ⟨r0, hv, h2⟩ => ⟨r0, hv, hk r0 H2 h2⟩
theorem c_law03_tuple.gh {C : Ctx} {p_l : Sl} {K : T_api_Value → Heap → Prop} {H : Heap} (h : c_law03_tuple C p_l (fun r0 H2 => ∃ H0, Gh C H2 H0 ∧ K r0 H0) H) : c_law03_tuple C p_l K H :=
  Spec.gh (Spec.mono h fun _ H2 ⟨r0, hv, H0, hg, hk⟩ => ⟨H0, hg, r0, hv, hk⟩)
def c_law03_text (C : Ctx) (p_s : Str) (K : T_api_Value → Heap → Prop) (H : Heap) : Prop :=
  Spec Tryd.prog C 36 [sv p_s] H (fun v H2 => ∃ (r0 : T_api_Value), v = .agg (T_api_Value.c r0).toArray ∧ K r0 H2)
theorem c_law03_text.mono {C : Ctx} {p_s : Str} {K K2 : T_api_Value → Heap → Prop} {H : Heap} (h : c_law03_text C p_s K H) (hk : ∀ r0 H2, K r0 H2 → K2 r0 H2) : c_law03_text C p_s K2 H :=
  Spec.mono h fun _ H2 ⟨r0, hv, h2⟩ => ⟨r0, hv, hk r0 H2 h2⟩
theorem c_law03_text.gh {C : Ctx} {p_s : Str} {K : T_api_Value → Heap → Prop} {H : Heap} (h : c_law03_text C p_s (fun r0 H2 => ∃ H0, Gh C H2 H0 ∧ K r0 H0) H) : c_law03_text C p_s K H :=
  Spec.gh (Spec.mono h fun _ H2 ⟨r0, hv, H0, hg, hk⟩ => ⟨H0, hg, r0, hv, hk⟩)
def c_ref02_Same (C : Ctx) (p_a : T_api_Value) (p_b : T_api_Value) (K : Bool → Heap → Prop) (H : Heap) : Prop :=
  Spec Tryd.prog C 37 [.agg (T_api_Value.c p_a).toArray, .agg (T_api_Value.c p_b).toArray] H (fun v H2 => ∃ (r0 : Bool), v = .bool r0 ∧ K r0 H2)
theorem c_ref02_Same.mono {C : Ctx} {p_a : T_api_Value} {p_b : T_api_Value} {K K2 : Bool → Heap → Prop} {H : Heap} (h : c_ref02_Same C p_a p_b K H) (hk : ∀ r0 H2, K r0 H2 → K2 r0 H2) : c_ref02_Same C p_a p_b K2 H :=
  Spec.mono h fun _ H2 ⟨r0, hv, h2⟩ => ⟨r0, hv, hk r0 H2 h2⟩
theorem c_ref02_Same.gh {C : Ctx} {p_a : T_api_Value} {p_b : T_api_Value} {K : Bool → Heap → Prop} {H : Heap} (h : c_ref02_Same C p_a p_b (fun r0 H2 => ∃ H0, Gh C H2 H0 ∧ K r0 H0) H) : c_ref02_Same C p_a p_b K H :=
  Spec.gh (Spec.mono h fun _ H2 ⟨r0, hv, H0, hg, hk⟩ => ⟨H0, hg, r0, hv, hk⟩)
def c_code_Reader_Value (C : Ctx) (p_r : Option (Nat × Nat)) (K : T_api_Value → Heap → Prop) (H : Heap) : Prop :=
  Spec Tryd.prog C 38 [pv p_r] H (fun v H2 => ∃ (r0 : T_api_Value), v = .agg (T_api_Value.c r0).toArray ∧ K r0 H2)
theorem c_code_Reader_Value.mono {C : Ctx} {p_r : Option (Nat × Nat)} {K K2 : T_api_Value → Heap → Prop} {H : Heap} (h : c_code_Reader_Value C p_r K H) (hk : ∀ r0 H2, K r0 H2 → K2 r0 H2) : c_code_Reader_Value C p_r K2 H :=
  Spec.mono h fun _ H2 ⟨r0, hv, h2⟩ => ⟨r0, hv, hk r0 H2 h2⟩
theorem c_code_Reader_Value.gh {C : Ctx} {p_r : Option (Nat × Nat)} {K : T_api_Value → Heap → Prop} {H : Heap} (h : c_code_Reader_Value C p_r (fun r0 H2 => ∃ H0, Gh C H2 H0 ∧ K r0 H0) H) : c_code_Reader_Value C p_r K H :=
  Spec.gh (Spec.mono h fun _ H2 ⟨r0, hv, H0, hg, hk⟩ => ⟨H0, hg, r0, hv, hk⟩)
def c_code_Reader_OK (C : Ctx) (p_r : Option (Nat × Nat)) (K : Bool → Heap → Prop) (H : Heap) : Prop :=
  Spec Tryd.prog C 39 [pv p_r] H (fun v H2 => ∃ (r0 : Bool), v = .bool r0 ∧ K r0 H2)
theorem c_code_Reader_OK.mono {C : Ctx} {p_r : Option (Nat × Nat)} {K K2 : Bool → Heap → Prop} {H : Heap} (h : c_code_Reader_OK C p_r K H) (hk : ∀ r0 H2, K r0 H2 → K2 r0 H2) : c_code_Reader_OK C p_r K2 H :=
  Spec.mono h fun _ H2 ⟨r0, hv, h2⟩ => ⟨r0, hv, hk r0 H2 h2⟩
theorem c_code_Reader_OK.gh {C : Ctx} {p_r : Option (Nat × Nat)} {K : Bool → Heap → Prop} {H : Heap} (h : c_code_Reader_OK C p_r (fun r0 H2 => ∃ H0, Gh C H2 H0 ∧ K r0 H0) H) : c_code_Reader_OK C p_r K H :=
  Spec.gh (Spec.mono h fun _ H2 ⟨r0, hv, H0, hg, hk⟩ => ⟨H0, hg, r0, hv, hk⟩)
def c_code_Reader_Count (C : Ctx) (p_r : Option (Nat × Nat)) (p_most : Int) (K : Int → Heap → Prop) (H : Heap) : Prop :=
  Spec Tryd.prog C 40 [pv p_r, .int .i64 p_most] H (fun v H2 => ∃ (r0 : Int), v = .int .i64 r0 ∧ K r0 H2)
theorem c_code_Reader_Count.mono {C : Ctx} {p_r : Option (Nat × Nat)} {p_most : Int} {K K2 : Int → Heap → Prop} {H : Heap} (h : c_code_Reader_Count C p_r p_most K H) (hk : ∀ r0 H2, K r0 H2 → K2 r0 H2) : c_code_Reader_Count C p_r p_most K2 H :=
  Spec.mono h fun _ H2 ⟨r0, hv, h2⟩ => ⟨r0, hv, hk r0 H2 h2⟩
theorem c_code_Reader_Count.gh {C : Ctx} {p_r : Option (Nat × Nat)} {p_most : Int} {K : Int → Heap → Prop} {H : Heap} (h : c_code_Reader_Count C p_r p_most (fun r0 H2 => ∃ H0, Gh C H2 H0 ∧ K r0 H0) H) : c_code_Reader_Count C p_r p_most K H :=
  Spec.gh (Spec.mono h fun _ H2 ⟨r0, hv, H0, hg, hk⟩ => ⟨H0, hg, r0, hv, hk⟩)
def c_code_Reader_Flag (C : Ctx) (p_r : Option (Nat × Nat)) (K : Bool → Heap → Prop) (H : Heap) : Prop :=
  Spec Tryd.prog C 41 [pv p_r] H (fun v H2 => ∃ (r0 : Bool), v = .bool r0 ∧ K r0 H2)
theorem c_code_Reader_Flag.mono {C : Ctx} {p_r : Option (Nat × Nat)} {K K2 : Bool → Heap → Prop} {H : Heap} (h : c_code_Reader_Flag C p_r K H) (hk : ∀ r0 H2, K r0 H2 → K2 r0 H2) : c_code_Reader_Flag C p_r K2 H :=
  Spec.mono h fun _ H2 ⟨r0, hv, h2⟩ => ⟨r0, hv, hk r0 H2 h2⟩
theorem c_code_Reader_Flag.gh {C : Ctx} {p_r : Option (Nat × Nat)} {K : Bool → Heap → Prop} {H : Heap} (h : c_code_Reader_Flag C p_r (fun r0 H2 => ∃ H0, Gh C H2 H0 ∧ K r0 H0) H) : c_code_Reader_Flag C p_r K H :=
  Spec.gh (Spec.mono h fun _ H2 ⟨r0, hv, H0, hg, hk⟩ => ⟨H0, hg, r0, hv, hk⟩)
def c_law03_parts (C : Ctx) (p_v : T_api_Value) (K : Int → Heap → Prop) (H : Heap) : Prop :=
  Spec Tryd.prog C 42 [.agg (T_api_Value.c p_v).toArray] H (fun v H2 => ∃ (r0 : Int), v = .int .i64 r0 ∧ K r0 H2)
theorem c_law03_parts.mono {C : Ctx} {p_v : T_api_Value} {K K2 : Int → Heap → Prop} {H : Heap} (h : c_law03_parts C p_v K H) (hk : ∀ r0 H2, K r0 H2 → K2 r0 H2) : c_law03_parts C p_v K2 H :=
  Spec.mono h fun _ H2 ⟨r0, hv, h2⟩ => ⟨r0, hv, hk r0 H2 h2⟩
theorem c_law03_parts.gh {C : Ctx} {p_v : T_api_Value} {K : Int → Heap → Prop} {H : Heap} (h : c_law03_parts C p_v (fun r0 H2 => ∃ H0, Gh C H2 H0 ∧ K r0 H0) H) : c_law03_parts C p_v K H :=
  Spec.gh (Spec.mono h fun _ H2 ⟨r0, hv, H0, hg, hk⟩ => ⟨H0, hg, r0, hv, hk⟩)
def c_code_behind (C : Ctx) (p_b : Sl) (K : Option (Nat × Nat) → Heap → Prop) (H : Heap) : Prop :=
  Spec Tryd.prog C 43 [slv p_b] H (fun v H2 => ∃ (r0 : Option (Nat × Nat)), v = pv r0 ∧ K r0 H2)
theorem c_code_behind.mono {C : Ctx} {p_b : Sl} {K K2 : Option (Nat × Nat) → Heap → Prop} {H : Heap} (h : c_code_behind C p_b K H) (hk : ∀ r0 H2, K r0 H2 → K2 r0 H2) : c_code_behind C p_b K2 H :=
  Spec.mono h fun _ H2 ⟨r0, hv, h2⟩ => ⟨r0, hv, hk r0 H2 h2⟩
theorem c_code_behind.gh {C : Ctx} {p_b : Sl} {K : Option (Nat × Nat) → Heap → Prop} {H : Heap} (h : c_code_behind C p_b (fun r0 H2 => ∃ H0, Gh C H2 H0 ∧ K r0 H0) H) : c_code_behind C p_b K H :=
  Spec.gh (Spec.mono h fun _ H2 ⟨r0, hv, H0, hg, hk⟩ => ⟨H0, hg, r0, hv, hk⟩)
def c_code_pen_num (C : Ctx) (p_p : Option (Nat × Nat)) (p_n : Int) (K : Heap → Prop) (H : Heap) : Prop :=
  Spec Tryd.prog C 44 [pv p_p, .int .i64 p_n] H (fun v H2 => v = .tuple #[] ∧ K H2)
theorem c_code_pen_num.mono {C : Ctx} {p_p : Option (Nat × Nat)} {p_n : Int} {K K2 : Heap → Prop} {H : Heap} (h : c_code_pen_num C p_p p_n K H) (hk : ∀  H2, K  H2 → K2  H2) : c_code_pen_num C p_p p_n K2 H :=
  Spec.mono h fun _ H2 ⟨hv, h2⟩ => ⟨hv, hk H2 h2⟩
theorem c_code_pen_num.gh {C : Ctx} {p_p : Option (Nat × Nat)} {p_n : Int} {K : Heap → Prop} {H : Heap} (h : c_code_pen_num C p_p p_n (fun  H2 => ∃ H0, Gh C H2 H0 ∧ K  H0) H) : c_code_pen_num C p_p p_n K H :=
  Spec.gh (Spec.mono h fun _ H2 ⟨hv, H0, hg, hk⟩ => ⟨H0, hg, hv, hk⟩)
def c_ref03_with (C : Ctx) (p_b : Sl) (p_c : Sl) (K : Sl → Heap → Prop) (H : Heap) : Prop :=
  Spec Tryd.prog C 45 [slv p_b, slv p_c] H (fun v H2 => ∃ (r0 : Sl), v = slv r0 ∧ K r0 H2)
theorem c_ref03_with.mono {C : Ctx} {p_b : Sl} {p_c : Sl} {K K2 : Sl → Heap → Prop} {H : Heap} (h : c_ref03_with C p_b p_c K H) (hk : ∀ r0 H2, K r0 H2 → K2 r0 H2) : c_ref03_with C p_b p_c K2 H :=
  Spec.mono h fun _ H2 ⟨r0, hv, h2⟩ => ⟨r0, hv, hk r0 H2 h2⟩
theorem c_ref03_with.gh {C : Ctx} {p_b : Sl} {p_c : Sl} {K : Sl → Heap → Prop} {H : Heap} (h : c_ref03_with C p_b p_c (fun r0 H2 => ∃ H0, Gh C H2 H0 ∧ K r0 H0) H) : c_ref03_with C p_b p_c K H :=
  Spec.gh (Spec.mono h fun _ H2 ⟨r0, hv, H0, hg, hk⟩ => ⟨H0, hg, r0, hv, hk⟩)
def c_ref03_turned (C : Ctx) (p_b : Sl) (K : Sl → Heap → Prop) (H : Heap) : Prop :=
  Spec Tryd.prog C 46 [slv p_b] H (fun v H2 => ∃ (r0 : Sl), v = slv r0 ∧ K r0 H2)
theorem c_ref03_turned.mono {C : Ctx} {p_b : Sl} {K K2 : Sl → Heap → Prop} {H : Heap} (h : c_ref03_turned C p_b K H) (hk : ∀ r0 H2, K r0 H2 → K2 r0 H2) : c_ref03_turned C p_b K2 H :=
  Spec.mono h fun _ H2 ⟨r0, hv, h2⟩ => ⟨r0, hv, hk r0 H2 h2⟩
theorem c_ref03_turned.gh {C : Ctx} {p_b : Sl} {K : Sl → Heap → Prop} {H : Heap} (h : c_ref03_turned C p_b (fun r0 H2 => ∃ H0, Gh C H2 H0 ∧ K r0 H0) H) : c_ref03_turned C p_b K H :=
  Spec.gh (Spec.mono h fun _ H2 ⟨r0, hv, H0, hg, hk⟩ => ⟨H0, hg, r0, hv, hk⟩)
def c_ref03_digits (C : Ctx) (p_u : Int) (K : Sl → Heap → Prop) (H : Heap) : Prop :=
  Spec Tryd.prog C 47 [.int .u64 p_u] H (fun v H2 => ∃ (r0 : Sl), v = slv r0 ∧ K r0 H2)
theorem c_ref03_digits.mono {C : Ctx} {p_u : Int} {K K2 : Sl → Heap → Prop} {H : Heap} (h : c_ref03_digits C p_u K H) (hk : ∀ r0 H2, K r0 H2 → K2 r0 H2) : c_ref03_digits C p_u K2 H :=
  Spec.mono h fun _ H2 ⟨r0, hv, h2⟩ => ⟨r0, hv, hk r0 H2 h2⟩
theorem c_ref03_digits.gh {C : Ctx} {p_u : Int} {K : Sl → Heap → Prop} {H : Heap} (h : c_ref03_digits C p_u (fun r0 H2 => ∃ H0, Gh C H2 H0 ∧ K r0 H0) H) : c_ref03_digits C p_u K H :=
  Spec.gh (Spec.mono h fun _ H2 ⟨r0, hv, H0, hg, hk⟩ => ⟨H0, hg, r0, hv, hk⟩)
def c_code_pen_number (C : Ctx) (p_p : Option (Nat × Nat)) (p_first : Int) (p_u : Int) (K : Heap → Prop) (H : Heap) : Prop :=
  Spec Tryd.prog C 48 [pv p_p, .int .u8 p_first, .int .u64 p_u] H (fun v H2 => v = .tuple #[] ∧ K H2)
theorem c_code_pen_number.mono {C : Ctx} {p_p : Option (Nat × Nat)} {p_first : Int} {p_u : Int} {K K2 : Heap → Prop} {H : Heap} (h : c_code_pen_number C p_p p_first p_u K H) (hk : ∀  H2, K  H2 → K2  H2) : c_code_pen_number C p_p p_first p_u K2 H :=
  Spec.mono h fun _ H2 ⟨hv, h2⟩ => ⟨hv, hk H2 h2⟩
theorem c_code_pen_number.gh {C : Ctx} {p_p : Option (Nat × Nat)} {p_first : Int} {p_u : Int} {K : Heap → Prop} {H : Heap} (h : c_code_pen_number C p_p p_first p_u (fun  H2 => ∃ H0, Gh C H2 H0 ∧ K  H0) H) : c_code_pen_number C p_p p_first p_u K H :=
  Spec.gh (Spec.mono h fun _ H2 ⟨hv, H0, hg, hk⟩ => ⟨H0, hg, hv, hk⟩)
def c_code_pen_text (C : Ctx) (p_p : Option (Nat × Nat)) (p_s : Str) (K : Heap → Prop) (H : Heap) : Prop :=
  Spec Tryd.prog C 49 [pv p_p, sv p_s] H (fun v H2 => v = .tuple #[] ∧ K H2)
theorem c_code_pen_text.mono {C : Ctx} {p_p : Option (Nat × Nat)} {p_s : Str} {K K2 : Heap → Prop} {H : Heap} (h : c_code_pen_text C p_p p_s K H) (hk : ∀  H2, K  H2 → K2  H2) : c_code_pen_text C p_p p_s K2 H :=
  Spec.mono h fun _ H2 ⟨hv, h2⟩ => ⟨hv, hk H2 h2⟩
theorem c_code_pen_text.gh {C : Ctx} {p_p : Option (Nat × Nat)} {p_s : Str} {K : Heap → Prop} {H : Heap} (h : c_code_pen_text C p_p p_s (fun  H2 => ∃ H0, Gh C H2 H0 ∧ K  H0) H) : c_code_pen_text C p_p p_s K H :=
  Spec.gh (Spec.mono h fun _ H2 ⟨hv, H0, hg, hk⟩ => ⟨H0, hg, hv, hk⟩)
def c_code_pen_put (C : Ctx) (p_p : Option (Nat × Nat)) (p_l : Sl) (K : Heap → Prop) (H : Heap) : Prop :=
  Spec Tryd.prog C 50 [pv p_p, slv p_l] H (fun v H2 => v = .tuple #[] ∧ K H2)
theorem c_code_pen_put.mono {C : Ctx} {p_p : Option (Nat × Nat)} {p_l : Sl} {K K2 : Heap → Prop} {H : Heap} (h : c_code_pen_put C p_p p_l K H) (hk : ∀  H2, K  H2 → K2  H2) : c_code_pen_put C p_p p_l K2 H :=
  Spec.mono h fun _ H2 ⟨hv, h2⟩ => ⟨hv, hk H2 h2⟩
theorem c_code_pen_put.gh {C : Ctx} {p_p : Option (Nat × Nat)} {p_l : Sl} {K : Heap → Prop} {H : Heap} (h : c_code_pen_put C p_p p_l (fun  H2 => ∃ H0, Gh C H2 H0 ∧ K  H0) H) : c_code_pen_put C p_p p_l K H :=
  Spec.gh (Spec.mono h fun _ H2 ⟨hv, H0, hg, hk⟩ => ⟨H0, hg, hv, hk⟩)
def c_value_Check (C : Ctx) (p_v : T_api_Value) (K : Int → Heap → Prop) (H : Heap) : Prop :=
  Spec Tryd.prog C 51 [.agg (T_api_Value.c p_v).toArray] H (fun v H2 => ∃ (r0 : Int), v = .int .i64 r0 ∧ K r0 H2)
theorem c_value_Check.mono {C : Ctx} {p_v : T_api_Value} {K K2 : Int → Heap → Prop} {H : Heap} (h : c_value_Check C p_v K H) (hk : ∀ r0 H2, K r0 H2 → K2 r0 H2) : c_value_Check C p_v K2 H :=
  Spec.mono h fun _ H2 ⟨r0, hv, h2⟩ => ⟨r0, hv, hk r0 H2 h2⟩
theorem c_value_Check.gh {C : Ctx} {p_v : T_api_Value} {K : Int → Heap → Prop} {H : Heap} (h : c_value_Check C p_v (fun r0 H2 => ∃ H0, Gh C H2 H0 ∧ K r0 H0) H) : c_value_Check C p_v K H :=
  Spec.gh (Spec.mono h fun _ H2 ⟨r0, hv, H0, hg, hk⟩ => ⟨H0, hg, r0, hv, hk⟩)
def c_code_pen_value (C : Ctx) (p_p : Option (Nat × Nat)) (p_v : T_api_Value) (K : Heap → Prop) (H : Heap) : Prop :=
  Spec Tryd.prog C 52 [pv p_p, .agg (T_api_Value.c p_v).toArray] H (fun v H2 => v = .tuple #[] ∧ K H2)
theorem c_code_pen_value.mono {C : Ctx} {p_p : Option (Nat × Nat)} {p_v : T_api_Value} {K K2 : Heap → Prop} {H : Heap} (h : c_code_pen_value C p_p p_v K H) (hk : ∀  H2, K  H2 → K2  H2) : c_code_pen_value C p_p p_v K2 H :=
  Spec.mono h fun _ H2 ⟨hv, h2⟩ => ⟨hv, hk H2 h2⟩
theorem c_code_pen_value.gh {C : Ctx} {p_p : Option (Nat × Nat)} {p_v : T_api_Value} {K : Heap → Prop} {H : Heap} (h : c_code_pen_value C p_p p_v (fun  H2 => ∃ H0, Gh C H2 H0 ∧ K  H0) H) : c_code_pen_value C p_p p_v K H :=
  Spec.gh (Spec.mono h fun _ H2 ⟨hv, H0, hg, hk⟩ => ⟨H0, hg, hv, hk⟩)
def c_ref03_put (C : Ctx) (p_v : T_api_Value) (K : Sl → Heap → Prop) (H : Heap) : Prop :=
  Spec Tryd.prog C 53 [.agg (T_api_Value.c p_v).toArray] H (fun v H2 => ∃ (r0 : Sl), v = slv r0 ∧ K r0 H2)
theorem c_ref03_put.mono {C : Ctx} {p_v : T_api_Value} {K K2 : Sl → Heap → Prop} {H : Heap} (h : c_ref03_put C p_v K H) (hk : ∀ r0 H2, K r0 H2 → K2 r0 H2) : c_ref03_put C p_v K2 H :=
  Spec.mono h fun _ H2 ⟨r0, hv, h2⟩ => ⟨r0, hv, hk r0 H2 h2⟩
theorem c_ref03_put.gh {C : Ctx} {p_v : T_api_Value} {K : Sl → Heap → Prop} {H : Heap} (h : c_ref03_put C p_v (fun r0 H2 => ∃ H0, Gh C H2 H0 ∧ K r0 H0) H) : c_ref03_put C p_v K H :=
  Spec.gh (Spec.mono h fun _ H2 ⟨r0, hv, H0, hg, hk⟩ => ⟨H0, hg, r0, hv, hk⟩)
def c_ref02_last (C : Ctx) (p_a : Bool) (p_b : Bool) (K : Int → Heap → Prop) (H : Heap) : Prop :=
  Spec Tryd.prog C 54 [.bool p_a, .bool p_b] H (fun v H2 => ∃ (r0 : Int), v = .int .i64 r0 ∧ K r0 H2)
theorem c_ref02_last.mono {C : Ctx} {p_a : Bool} {p_b : Bool} {K K2 : Int → Heap → Prop} {H : Heap} (h : c_ref02_last C p_a p_b K H) (hk : ∀ r0 H2, K r0 H2 → K2 r0 H2) : c_ref02_last C p_a p_b K2 H :=
  Spec.mono h fun _ H2 ⟨r0, hv, h2⟩ => ⟨r0, hv, hk r0 H2 h2⟩
theorem c_ref02_last.gh {C : Ctx} {p_a : Bool} {p_b : Bool} {K : Int → Heap → Prop} {H : Heap} (h : c_ref02_last C p_a p_b (fun r0 H2 => ∃ H0, Gh C H2 H0 ∧ K r0 H0) H) : c_ref02_last C p_a p_b K H :=
  Spec.gh (Spec.mono h fun _ H2 ⟨r0, hv, H0, hg, hk⟩ => ⟨H0, hg, r0, hv, hk⟩)
def c_ref02_cmp (C : Ctx) (p_a : T_api_Value) (p_b : T_api_Value) (K : Int → Heap → Prop) (H : Heap) : Prop :=
  Spec Tryd.prog C 55 [.agg (T_api_Value.c p_a).toArray, .agg (T_api_Value.c p_b).toArray] H (fun v H2 => ∃ (r0 : Int), v = .int .i64 r0 ∧ K r0 H2)
theorem c_ref02_cmp.mono {C : Ctx} {p_a : T_api_Value} {p_b : T_api_Value} {K K2 : Int → Heap → Prop} {H : Heap} (h : c_ref02_cmp C p_a p_b K H) (hk : ∀ r0 H2, K r0 H2 → K2 r0 H2) : c_ref02_cmp C p_a p_b K2 H :=
  Spec.mono h fun _ H2 ⟨r0, hv, h2⟩ => ⟨r0, hv, hk r0 H2 h2⟩
theorem c_ref02_cmp.gh {C : Ctx} {p_a : T_api_Value} {p_b : T_api_Value} {K : Int → Heap → Prop} {H : Heap} (h : c_ref02_cmp C p_a p_b (fun r0 H2 => ∃ H0, Gh C H2 H0 ∧ K r0 H0) H) : c_ref02_cmp C p_a p_b K H :=
  Spec.gh (Spec.mono h fun _ H2 ⟨r0, hv, H0, hg, hk⟩ => ⟨H0, hg, r0, hv, hk⟩)
def c_ref02_Depth (C : Ctx) (p_v : T_api_Value) (K : Int → Heap → Prop) (H : Heap) : Prop :=
  Spec Tryd.prog C 56 [.agg (T_api_Value.c p_v).toArray] H (fun v H2 => ∃ (r0 : Int), v = .int .i64 r0 ∧ K r0 H2)
theorem c_ref02_Depth.mono {C : Ctx} {p_v : T_api_Value} {K K2 : Int → Heap → Prop} {H : Heap} (h : c_ref02_Depth C p_v K H) (hk : ∀ r0 H2, K r0 H2 → K2 r0 H2) : c_ref02_Depth C p_v K2 H :=
  Spec.mono h fun _ H2 ⟨r0, hv, h2⟩ => ⟨r0, hv, hk r0 H2 h2⟩
theorem c_ref02_Depth.gh {C : Ctx} {p_v : T_api_Value} {K : Int → Heap → Prop} {H : Heap} (h : c_ref02_Depth C p_v (fun r0 H2 => ∃ H0, Gh C H2 H0 ∧ K r0 H0) H) : c_ref02_Depth C p_v K H :=
  Spec.gh (Spec.mono h fun _ H2 ⟨r0, hv, H0, hg, hk⟩ => ⟨H0, hg, r0, hv, hk⟩)
def c_ref02_form (C : Ctx) (p_v : T_api_Value) (K : Bool → Heap → Prop) (H : Heap) : Prop :=
  Spec Tryd.prog C 57 [.agg (T_api_Value.c p_v).toArray] H (fun v H2 => ∃ (r0 : Bool), v = .bool r0 ∧ K r0 H2)
theorem c_ref02_form.mono {C : Ctx} {p_v : T_api_Value} {K K2 : Bool → Heap → Prop} {H : Heap} (h : c_ref02_form C p_v K H) (hk : ∀ r0 H2, K r0 H2 → K2 r0 H2) : c_ref02_form C p_v K2 H :=
  Spec.mono h fun _ H2 ⟨r0, hv, h2⟩ => ⟨r0, hv, hk r0 H2 h2⟩
theorem c_ref02_form.gh {C : Ctx} {p_v : T_api_Value} {K : Bool → Heap → Prop} {H : Heap} (h : c_ref02_form C p_v (fun r0 H2 => ∃ H0, Gh C H2 H0 ∧ K r0 H0) H) : c_ref02_form C p_v K H :=
  Spec.gh (Spec.mono h fun _ H2 ⟨r0, hv, H0, hg, hk⟩ => ⟨H0, hg, r0, hv, hk⟩)
def c_ref02_fits (C : Ctx) (p_v : T_api_Value) (K : Bool → Heap → Prop) (H : Heap) : Prop :=
  Spec Tryd.prog C 58 [.agg (T_api_Value.c p_v).toArray] H (fun v H2 => ∃ (r0 : Bool), v = .bool r0 ∧ K r0 H2)
theorem c_ref02_fits.mono {C : Ctx} {p_v : T_api_Value} {K K2 : Bool → Heap → Prop} {H : Heap} (h : c_ref02_fits C p_v K H) (hk : ∀ r0 H2, K r0 H2 → K2 r0 H2) : c_ref02_fits C p_v K2 H :=
  Spec.mono h fun _ H2 ⟨r0, hv, h2⟩ => ⟨r0, hv, hk r0 H2 h2⟩
theorem c_ref02_fits.gh {C : Ctx} {p_v : T_api_Value} {K : Bool → Heap → Prop} {H : Heap} (h : c_ref02_fits C p_v (fun r0 H2 => ∃ H0, Gh C H2 H0 ∧ K r0 H0) H) : c_ref02_fits C p_v K H :=
  Spec.gh (Spec.mono h fun _ H2 ⟨r0, hv, H0, hg, hk⟩ => ⟨H0, hg, r0, hv, hk⟩)
def c_ref02_Row (C : Ctx) (p_l : Sl) (K : Bool → Heap → Prop) (H : Heap) : Prop :=
  Spec Tryd.prog C 59 [slv p_l] H (fun v H2 => ∃ (r0 : Bool), v = .bool r0 ∧ K r0 H2)
theorem c_ref02_Row.mono {C : Ctx} {p_l : Sl} {K K2 : Bool → Heap → Prop} {H : Heap} (h : c_ref02_Row C p_l K H) (hk : ∀ r0 H2, K r0 H2 → K2 r0 H2) : c_ref02_Row C p_l K2 H :=
  Spec.mono h fun _ H2 ⟨r0, hv, h2⟩ => ⟨r0, hv, hk r0 H2 h2⟩
theorem c_ref02_Row.gh {C : Ctx} {p_l : Sl} {K : Bool → Heap → Prop} {H : Heap} (h : c_ref02_Row C p_l (fun r0 H2 => ∃ H0, Gh C H2 H0 ∧ K r0 H0) H) : c_ref02_Row C p_l K H :=
  Spec.gh (Spec.mono h fun _ H2 ⟨r0, hv, H0, hg, hk⟩ => ⟨H0, hg, r0, hv, hk⟩)
def c_ref02_rows (C : Ctx) (p_a : Sl) (p_b : Sl) (K : Int → Heap → Prop) (H : Heap) : Prop :=
  Spec Tryd.prog C 60 [slv p_a, slv p_b] H (fun v H2 => ∃ (r0 : Int), v = .int .i64 r0 ∧ K r0 H2)
theorem c_ref02_rows.mono {C : Ctx} {p_a : Sl} {p_b : Sl} {K K2 : Int → Heap → Prop} {H : Heap} (h : c_ref02_rows C p_a p_b K H) (hk : ∀ r0 H2, K r0 H2 → K2 r0 H2) : c_ref02_rows C p_a p_b K2 H :=
  Spec.mono h fun _ H2 ⟨r0, hv, h2⟩ => ⟨r0, hv, hk r0 H2 h2⟩
theorem c_ref02_rows.gh {C : Ctx} {p_a : Sl} {p_b : Sl} {K : Int → Heap → Prop} {H : Heap} (h : c_ref02_rows C p_a p_b (fun r0 H2 => ∃ H0, Gh C H2 H0 ∧ K r0 H0) H) : c_ref02_rows C p_a p_b K H :=
  Spec.gh (Spec.mono h fun _ H2 ⟨r0, hv, H0, hg, hk⟩ => ⟨H0, hg, r0, hv, hk⟩)
def c_slices_Clone_byte_byte (C : Ctx) (p_s : Sl) (K : Sl → Heap → Prop) (H : Heap) : Prop :=
  Spec Tryd.prog C 61 [slv p_s] H (fun v H2 => ∃ (r0 : Sl), v = slv r0 ∧ K r0 H2)
theorem c_slices_Clone_byte_byte.mono {C : Ctx} {p_s : Sl} {K K2 : Sl → Heap → Prop} {H : Heap} (h : c_slices_Clone_byte_byte C p_s K H) (hk : ∀ r0 H2, K r0 H2 → K2 r0 H2) : c_slices_Clone_byte_byte C p_s K2 H :=
  Spec.mono h fun _ H2 ⟨r0, hv, h2⟩ => ⟨r0, hv, hk r0 H2 h2⟩
theorem c_slices_Clone_byte_byte.gh {C : Ctx} {p_s : Sl} {K : Sl → Heap → Prop} {H : Heap} (h : c_slices_Clone_byte_byte C p_s (fun r0 H2 => ∃ H0, Gh C H2 H0 ∧ K r0 H0) H) : c_slices_Clone_byte_byte C p_s K H :=
  Spec.gh (Spec.mono h fun _ H2 ⟨r0, hv, H0, hg, hk⟩ => ⟨H0, hg, r0, hv, hk⟩)
def c_code_Reader_next (C : Ctx) (p_r : Option (Nat × Nat)) (K : Int → Heap → Prop) (H : Heap) : Prop :=
  Spec Tryd.prog C 62 [pv p_r] H (fun v H2 => ∃ (r0 : Int), v = .int .u8 r0 ∧ K r0 H2)
theorem c_code_Reader_next.mono {C : Ctx} {p_r : Option (Nat × Nat)} {K K2 : Int → Heap → Prop} {H : Heap} (h : c_code_Reader_next C p_r K H) (hk : ∀ r0 H2, K r0 H2 → K2 r0 H2) : c_code_Reader_next C p_r K2 H :=
  Spec.mono h fun _ H2 ⟨r0, hv, h2⟩ => ⟨r0, hv, hk r0 H2 h2⟩
theorem c_code_Reader_next.gh {C : Ctx} {p_r : Option (Nat × Nat)} {K : Int → Heap → Prop} {H : Heap} (h : c_code_Reader_next C p_r (fun r0 H2 => ∃ H0, Gh C H2 H0 ∧ K r0 H0) H) : c_code_Reader_next C p_r K H :=
  Spec.gh (Spec.mono h fun _ H2 ⟨r0, hv, H0, hg, hk⟩ => ⟨H0, hg, r0, hv, hk⟩)
def c_code_Reader_flip (C : Ctx) (p_r : Option (Nat × Nat)) (p_is : Bool) (K : Heap → Prop) (H : Heap) : Prop :=
  Spec Tryd.prog C 63 [pv p_r, .bool p_is] H (fun v H2 => v = .tuple #[] ∧ K H2)
theorem c_code_Reader_flip.mono {C : Ctx} {p_r : Option (Nat × Nat)} {p_is : Bool} {K K2 : Heap → Prop} {H : Heap} (h : c_code_Reader_flip C p_r p_is K H) (hk : ∀  H2, K  H2 → K2  H2) : c_code_Reader_flip C p_r p_is K2 H :=
  Spec.mono h fun _ H2 ⟨hv, h2⟩ => ⟨hv, hk H2 h2⟩
theorem c_code_Reader_flip.gh {C : Ctx} {p_r : Option (Nat × Nat)} {p_is : Bool} {K : Heap → Prop} {H : Heap} (h : c_code_Reader_flip C p_r p_is (fun  H2 => ∃ H0, Gh C H2 H0 ∧ K  H0) H) : c_code_Reader_flip C p_r p_is K H :=
  Spec.gh (Spec.mono h fun _ H2 ⟨hv, H0, hg, hk⟩ => ⟨H0, hg, hv, hk⟩)
def c_code_Reader_number (C : Ctx) (p_r : Option (Nat × Nat)) (p_k : Int) (p_most : Int) (K : Int → Heap → Prop) (H : Heap) : Prop :=
  Spec Tryd.prog C 64 [pv p_r, .int .i64 p_k, .int .i64 p_most] H (fun v H2 => ∃ (r0 : Int), v = .int .u64 r0 ∧ K r0 H2)
theorem c_code_Reader_number.mono {C : Ctx} {p_r : Option (Nat × Nat)} {p_k : Int} {p_most : Int} {K K2 : Int → Heap → Prop} {H : Heap} (h : c_code_Reader_number C p_r p_k p_most K H) (hk : ∀ r0 H2, K r0 H2 → K2 r0 H2) : c_code_Reader_number C p_r p_k p_most K2 H :=
  Spec.mono h fun _ H2 ⟨r0, hv, h2⟩ => ⟨r0, hv, hk r0 H2 h2⟩
theorem c_code_Reader_number.gh {C : Ctx} {p_r : Option (Nat × Nat)} {p_k : Int} {p_most : Int} {K : Int → Heap → Prop} {H : Heap} (h : c_code_Reader_number C p_r p_k p_most (fun r0 H2 => ∃ H0, Gh C H2 H0 ∧ K r0 H0) H) : c_code_Reader_number C p_r p_k p_most K H :=
  Spec.gh (Spec.mono h fun _ H2 ⟨r0, hv, H0, hg, hk⟩ => ⟨H0, hg, r0, hv, hk⟩)
def c_code_Reader_ask (C : Ctx) (p_r : Option (Nat × Nat)) (p_ok : Bool) (K : Bool → Heap → Prop) (H : Heap) : Prop :=
  Spec Tryd.prog C 65 [pv p_r, .bool p_ok] H (fun v H2 => ∃ (r0 : Bool), v = .bool r0 ∧ K r0 H2)
theorem c_code_Reader_ask.mono {C : Ctx} {p_r : Option (Nat × Nat)} {p_ok : Bool} {K K2 : Bool → Heap → Prop} {H : Heap} (h : c_code_Reader_ask C p_r p_ok K H) (hk : ∀ r0 H2, K r0 H2 → K2 r0 H2) : c_code_Reader_ask C p_r p_ok K2 H :=
  Spec.mono h fun _ H2 ⟨r0, hv, h2⟩ => ⟨r0, hv, hk r0 H2 h2⟩
theorem c_code_Reader_ask.gh {C : Ctx} {p_r : Option (Nat × Nat)} {p_ok : Bool} {K : Bool → Heap → Prop} {H : Heap} (h : c_code_Reader_ask C p_r p_ok (fun r0 H2 => ∃ H0, Gh C H2 H0 ∧ K r0 H0) H) : c_code_Reader_ask C p_r p_ok K H :=
  Spec.gh (Spec.mono h fun _ H2 ⟨r0, hv, H0, hg, hk⟩ => ⟨H0, hg, r0, hv, hk⟩)
def c_ref02_SameRow (C : Ctx) (p_a : Sl) (p_b : Sl) (K : Bool → Heap → Prop) (H : Heap) : Prop :=
  Spec Tryd.prog C 66 [slv p_a, slv p_b] H (fun v H2 => ∃ (r0 : Bool), v = .bool r0 ∧ K r0 H2)
theorem c_ref02_SameRow.mono {C : Ctx} {p_a : Sl} {p_b : Sl} {K K2 : Bool → Heap → Prop} {H : Heap} (h : c_ref02_SameRow C p_a p_b K H) (hk : ∀ r0 H2, K r0 H2 → K2 r0 H2) : c_ref02_SameRow C p_a p_b K2 H :=
  Spec.mono h fun _ H2 ⟨r0, hv, h2⟩ => ⟨r0, hv, hk r0 H2 h2⟩
theorem c_ref02_SameRow.gh {C : Ctx} {p_a : Sl} {p_b : Sl} {K : Bool → Heap → Prop} {H : Heap} (h : c_ref02_SameRow C p_a p_b (fun r0 H2 => ∃ H0, Gh C H2 H0 ∧ K r0 H0) H) : c_ref02_SameRow C p_a p_b K H :=
  Spec.gh (Spec.mono h fun _ H2 ⟨r0, hv, H0, hg, hk⟩ => ⟨H0, hg, r0, hv, hk⟩)
def c_code_Reader_value (C : Ctx) (p_r : Option (Nat × Nat)) (p_deep : Int) (K : T_api_Value → Heap → Prop) (H : Heap) : Prop :=
  Spec Tryd.prog C 67 [pv p_r, .int .i64 p_deep] H (fun v H2 => ∃ (r0 : T_api_Value), v = .agg (T_api_Value.c r0).toArray ∧ K r0 H2)
theorem c_code_Reader_value.mono {C : Ctx} {p_r : Option (Nat × Nat)} {p_deep : Int} {K K2 : T_api_Value → Heap → Prop} {H : Heap} (h : c_code_Reader_value C p_r p_deep K H) (hk : ∀ r0 H2, K r0 H2 → K2 r0 H2) : c_code_Reader_value C p_r p_deep K2 H :=
  Spec.mono h fun _ H2 ⟨r0, hv, h2⟩ => ⟨r0, hv, hk r0 H2 h2⟩
theorem c_code_Reader_value.gh {C : Ctx} {p_r : Option (Nat × Nat)} {p_deep : Int} {K : T_api_Value → Heap → Prop} {H : Heap} (h : c_code_Reader_value C p_r p_deep (fun r0 H2 => ∃ H0, Gh C H2 H0 ∧ K r0 H0) H) : c_code_Reader_value C p_r p_deep K H :=
  Spec.gh (Spec.mono h fun _ H2 ⟨r0, hv, H0, hg, hk⟩ => ⟨H0, hg, r0, hv, hk⟩)
def c_code_pen_flip (C : Ctx) (p_p : Option (Nat × Nat)) (p_is : Bool) (K : Heap → Prop) (H : Heap) : Prop :=
  Spec Tryd.prog C 68 [pv p_p, .bool p_is] H (fun v H2 => v = .tuple #[] ∧ K H2)
theorem c_code_pen_flip.mono {C : Ctx} {p_p : Option (Nat × Nat)} {p_is : Bool} {K K2 : Heap → Prop} {H : Heap} (h : c_code_pen_flip C p_p p_is K H) (hk : ∀  H2, K  H2 → K2  H2) : c_code_pen_flip C p_p p_is K2 H :=
  Spec.mono h fun _ H2 ⟨hv, h2⟩ => ⟨hv, hk H2 h2⟩
theorem c_code_pen_flip.gh {C : Ctx} {p_p : Option (Nat × Nat)} {p_is : Bool} {K : Heap → Prop} {H : Heap} (h : c_code_pen_flip C p_p p_is (fun  H2 => ∃ H0, Gh C H2 H0 ∧ K  H0) H) : c_code_pen_flip C p_p p_is K H :=
  Spec.gh (Spec.mono h fun _ H2 ⟨hv, H0, hg, hk⟩ => ⟨H0, hg, hv, hk⟩)
def c_math_bits_Len64 (C : Ctx) (p_x : Int) (K : Int → Heap → Prop) (H : Heap) : Prop :=
  Spec Tryd.prog C 69 [.int .u64 p_x] H (fun v H2 => ∃ (r0 : Int), v = .int .i64 r0 ∧ K r0 H2)
theorem c_math_bits_Len64.mono {C : Ctx} {p_x : Int} {K K2 : Int → Heap → Prop} {H : Heap} (h : c_math_bits_Len64 C p_x K H) (hk : ∀ r0 H2, K r0 H2 → K2 r0 H2) : c_math_bits_Len64 C p_x K2 H :=
  Spec.mono h fun _ H2 ⟨r0, hv, h2⟩ => ⟨r0, hv, hk r0 H2 h2⟩
theorem c_math_bits_Len64.gh {C : Ctx} {p_x : Int} {K : Int → Heap → Prop} {H : Heap} (h : c_math_bits_Len64 C p_x (fun r0 H2 => ∃ H0, Gh C H2 H0 ∧ K r0 H0) H) : c_math_bits_Len64 C p_x K H :=
  Spec.gh (Spec.mono h fun _ H2 ⟨r0, hv, H0, hg, hk⟩ => ⟨H0, hg, r0, hv, hk⟩)
def c_value_depth (C : Ctx) (p_v : T_api_Value) (p_most : Int) (K : Int → Heap → Prop) (H : Heap) : Prop :=
  Spec Tryd.prog C 70 [.agg (T_api_Value.c p_v).toArray, .int .i64 p_most] H (fun v H2 => ∃ (r0 : Int), v = .int .i64 r0 ∧ K r0 H2)
theorem c_value_depth.mono {C : Ctx} {p_v : T_api_Value} {p_most : Int} {K K2 : Int → Heap → Prop} {H : Heap} (h : c_value_depth C p_v p_most K H) (hk : ∀ r0 H2, K r0 H2 → K2 r0 H2) : c_value_depth C p_v p_most K2 H :=
  Spec.mono h fun _ H2 ⟨r0, hv, h2⟩ => ⟨r0, hv, hk r0 H2 h2⟩
theorem c_value_depth.gh {C : Ctx} {p_v : T_api_Value} {p_most : Int} {K : Int → Heap → Prop} {H : Heap} (h : c_value_depth C p_v p_most (fun r0 H2 => ∃ H0, Gh C H2 H0 ∧ K r0 H0) H) : c_value_depth C p_v p_most K H :=
  Spec.gh (Spec.mono h fun _ H2 ⟨r0, hv, H0, hg, hk⟩ => ⟨H0, hg, r0, hv, hk⟩)
def c_value_item_look (C : Ctx) (p_v : T_api_Value) (K : Bool → Bool → Heap → Prop) (H : Heap) : Prop :=
  Spec Tryd.prog C 71 [.agg (T_api_Value.c p_v).toArray] H (fun v H2 => ∃ (r0 : Bool) (r1 : Bool), v = .tuple #[.bool r0, .bool r1] ∧ K r0 r1 H2)
theorem c_value_item_look.mono {C : Ctx} {p_v : T_api_Value} {K K2 : Bool → Bool → Heap → Prop} {H : Heap} (h : c_value_item_look C p_v K H) (hk : ∀ r0 r1 H2, K r0 r1 H2 → K2 r0 r1 H2) : c_value_item_look C p_v K2 H :=
  Spec.mono h fun _ H2 ⟨r0, r1, hv, h2⟩ => ⟨r0, r1, hv, hk r0 r1 H2 h2⟩
theorem c_value_item_look.gh {C : Ctx} {p_v : T_api_Value} {K : Bool → Bool → Heap → Prop} {H : Heap} (h : c_value_item_look C p_v (fun r0 r1 H2 => ∃ H0, Gh C H2 H0 ∧ K r0 r1 H0) H) : c_value_item_look C p_v K H :=
  Spec.gh (Spec.mono h fun _ H2 ⟨r0, r1, hv, H0, hg, hk⟩ => ⟨H0, hg, r0, r1, hv, hk⟩)
def c_code_pen_truth (C : Ctx) (p_p : Option (Nat × Nat)) (p_v : T_api_Value) (K : Heap → Prop) (H : Heap) : Prop :=
  Spec Tryd.prog C 72 [pv p_p, .agg (T_api_Value.c p_v).toArray] H (fun v H2 => v = .tuple #[] ∧ K H2)
theorem c_code_pen_truth.mono {C : Ctx} {p_p : Option (Nat × Nat)} {p_v : T_api_Value} {K K2 : Heap → Prop} {H : Heap} (h : c_code_pen_truth C p_p p_v K H) (hk : ∀  H2, K  H2 → K2  H2) : c_code_pen_truth C p_p p_v K2 H :=
  Spec.mono h fun _ H2 ⟨hv, h2⟩ => ⟨hv, hk H2 h2⟩
theorem c_code_pen_truth.gh {C : Ctx} {p_p : Option (Nat × Nat)} {p_v : T_api_Value} {K : Heap → Prop} {H : Heap} (h : c_code_pen_truth C p_p p_v (fun  H2 => ∃ H0, Gh C H2 H0 ∧ K  H0) H) : c_code_pen_truth C p_p p_v K H :=
  Spec.gh (Spec.mono h fun _ H2 ⟨hv, H0, hg, hk⟩ => ⟨H0, hg, hv, hk⟩)
def c_code_pen_whole (C : Ctx) (p_p : Option (Nat × Nat)) (p_v : T_api_Value) (K : Heap → Prop) (H : Heap) : Prop :=
  Spec Tryd.prog C 73 [pv p_p, .agg (T_api_Value.c p_v).toArray] H (fun v H2 => v = .tuple #[] ∧ K H2)
theorem c_code_pen_whole.mono {C : Ctx} {p_p : Option (Nat × Nat)} {p_v : T_api_Value} {K K2 : Heap → Prop} {H : Heap} (h : c_code_pen_whole C p_p p_v K H) (hk : ∀  H2, K  H2 → K2  H2) : c_code_pen_whole C p_p p_v K2 H :=
  Spec.mono h fun _ H2 ⟨hv, h2⟩ => ⟨hv, hk H2 h2⟩
theorem c_code_pen_whole.gh {C : Ctx} {p_p : Option (Nat × Nat)} {p_v : T_api_Value} {K : Heap → Prop} {H : Heap} (h : c_code_pen_whole C p_p p_v (fun  H2 => ∃ H0, Gh C H2 H0 ∧ K  H0) H) : c_code_pen_whole C p_p p_v K H :=
  Spec.gh (Spec.mono h fun _ H2 ⟨hv, H0, hg, hk⟩ => ⟨H0, hg, hv, hk⟩)
def c_code_pen_big (C : Ctx) (p_p : Option (Nat × Nat)) (p_v : T_api_Value) (K : Heap → Prop) (H : Heap) : Prop :=
  Spec Tryd.prog C 74 [pv p_p, .agg (T_api_Value.c p_v).toArray] H (fun v H2 => v = .tuple #[] ∧ K H2)
theorem c_code_pen_big.mono {C : Ctx} {p_p : Option (Nat × Nat)} {p_v : T_api_Value} {K K2 : Heap → Prop} {H : Heap} (h : c_code_pen_big C p_p p_v K H) (hk : ∀  H2, K  H2 → K2  H2) : c_code_pen_big C p_p p_v K2 H :=
  Spec.mono h fun _ H2 ⟨hv, h2⟩ => ⟨hv, hk H2 h2⟩
theorem c_code_pen_big.gh {C : Ctx} {p_p : Option (Nat × Nat)} {p_v : T_api_Value} {K : Heap → Prop} {H : Heap} (h : c_code_pen_big C p_p p_v (fun  H2 => ∃ H0, Gh C H2 H0 ∧ K  H0) H) : c_code_pen_big C p_p p_v K H :=
  Spec.gh (Spec.mono h fun _ H2 ⟨hv, H0, hg, hk⟩ => ⟨H0, hg, hv, hk⟩)
def c_code_pen_words (C : Ctx) (p_p : Option (Nat × Nat)) (p_v : T_api_Value) (K : Heap → Prop) (H : Heap) : Prop :=
  Spec Tryd.prog C 75 [pv p_p, .agg (T_api_Value.c p_v).toArray] H (fun v H2 => v = .tuple #[] ∧ K H2)
theorem c_code_pen_words.mono {C : Ctx} {p_p : Option (Nat × Nat)} {p_v : T_api_Value} {K K2 : Heap → Prop} {H : Heap} (h : c_code_pen_words C p_p p_v K H) (hk : ∀  H2, K  H2 → K2  H2) : c_code_pen_words C p_p p_v K2 H :=
  Spec.mono h fun _ H2 ⟨hv, h2⟩ => ⟨hv, hk H2 h2⟩
theorem c_code_pen_words.gh {C : Ctx} {p_p : Option (Nat × Nat)} {p_v : T_api_Value} {K : Heap → Prop} {H : Heap} (h : c_code_pen_words C p_p p_v (fun  H2 => ∃ H0, Gh C H2 H0 ∧ K  H0) H) : c_code_pen_words C p_p p_v K H :=
  Spec.gh (Spec.mono h fun _ H2 ⟨hv, H0, hg, hk⟩ => ⟨H0, hg, hv, hk⟩)
def c_code_pen_list (C : Ctx) (p_p : Option (Nat × Nat)) (p_v : T_api_Value) (K : Heap → Prop) (H : Heap) : Prop :=
  Spec Tryd.prog C 76 [pv p_p, .agg (T_api_Value.c p_v).toArray] H (fun v H2 => v = .tuple #[] ∧ K H2)
theorem c_code_pen_list.mono {C : Ctx} {p_p : Option (Nat × Nat)} {p_v : T_api_Value} {K K2 : Heap → Prop} {H : Heap} (h : c_code_pen_list C p_p p_v K H) (hk : ∀  H2, K  H2 → K2  H2) : c_code_pen_list C p_p p_v K2 H :=
  Spec.mono h fun _ H2 ⟨hv, h2⟩ => ⟨hv, hk H2 h2⟩
theorem c_code_pen_list.gh {C : Ctx} {p_p : Option (Nat × Nat)} {p_v : T_api_Value} {K : Heap → Prop} {H : Heap} (h : c_code_pen_list C p_p p_v (fun  H2 => ∃ H0, Gh C H2 H0 ∧ K  H0) H) : c_code_pen_list C p_p p_v K H :=
  Spec.gh (Spec.mono h fun _ H2 ⟨hv, H0, hg, hk⟩ => ⟨H0, hg, hv, hk⟩)
def c_code_pen_cons (C : Ctx) (p_p : Option (Nat × Nat)) (p_v : T_api_Value) (K : Heap → Prop) (H : Heap) : Prop :=
  Spec Tryd.prog C 77 [pv p_p, .agg (T_api_Value.c p_v).toArray] H (fun v H2 => v = .tuple #[] ∧ K H2)
theorem c_code_pen_cons.mono {C : Ctx} {p_p : Option (Nat × Nat)} {p_v : T_api_Value} {K K2 : Heap → Prop} {H : Heap} (h : c_code_pen_cons C p_p p_v K H) (hk : ∀  H2, K  H2 → K2  H2) : c_code_pen_cons C p_p p_v K2 H :=
  Spec.mono h fun _ H2 ⟨hv, h2⟩ => ⟨hv, hk H2 h2⟩
theorem c_code_pen_cons.gh {C : Ctx} {p_p : Option (Nat × Nat)} {p_v : T_api_Value} {K : Heap → Prop} {H : Heap} (h : c_code_pen_cons C p_p p_v (fun  H2 => ∃ H0, Gh C H2 H0 ∧ K  H0) H) : c_code_pen_cons C p_p p_v K H :=
  Spec.gh (Spec.mono h fun _ H2 ⟨hv, H0, hg, hk⟩ => ⟨H0, hg, hv, hk⟩)
def c_ref03_big (C : Ctx) (p_s : Str) (K : Sl → Heap → Prop) (H : Heap) : Prop :=
  Spec Tryd.prog C 78 [sv p_s] H (fun v H2 => ∃ (r0 : Sl), v = slv r0 ∧ K r0 H2)
theorem c_ref03_big.mono {C : Ctx} {p_s : Str} {K K2 : Sl → Heap → Prop} {H : Heap} (h : c_ref03_big C p_s K H) (hk : ∀ r0 H2, K r0 H2 → K2 r0 H2) : c_ref03_big C p_s K2 H :=
  Spec.mono h fun _ H2 ⟨r0, hv, h2⟩ => ⟨r0, hv, hk r0 H2 h2⟩
theorem c_ref03_big.gh {C : Ctx} {p_s : Str} {K : Sl → Heap → Prop} {H : Heap} (h : c_ref03_big C p_s (fun r0 H2 => ∃ H0, Gh C H2 H0 ∧ K r0 H0) H) : c_ref03_big C p_s K H :=
  Spec.gh (Spec.mono h fun _ H2 ⟨r0, hv, H0, hg, hk⟩ => ⟨H0, hg, r0, hv, hk⟩)
def c_ref02_ints (C : Ctx) (p_a : Int) (p_b : Int) (K : Int → Heap → Prop) (H : Heap) : Prop :=
  Spec Tryd.prog C 79 [.int .i64 p_a, .int .i64 p_b] H (fun v H2 => ∃ (r0 : Int), v = .int .i64 r0 ∧ K r0 H2)
theorem c_ref02_ints.mono {C : Ctx} {p_a : Int} {p_b : Int} {K K2 : Int → Heap → Prop} {H : Heap} (h : c_ref02_ints C p_a p_b K H) (hk : ∀ r0 H2, K r0 H2 → K2 r0 H2) : c_ref02_ints C p_a p_b K2 H :=
  Spec.mono h fun _ H2 ⟨r0, hv, h2⟩ => ⟨r0, hv, hk r0 H2 h2⟩
theorem c_ref02_ints.gh {C : Ctx} {p_a : Int} {p_b : Int} {K : Int → Heap → Prop} {H : Heap} (h : c_ref02_ints C p_a p_b (fun r0 H2 => ∃ H0, Gh C H2 H0 ∧ K r0 H0) H) : c_ref02_ints C p_a p_b K H :=
  Spec.gh (Spec.mono h fun _ H2 ⟨r0, hv, H0, hg, hk⟩ => ⟨H0, hg, r0, hv, hk⟩)
def c_ref02_Bigs (C : Ctx) (p_a : Str) (p_b : Str) (K : Int → Heap → Prop) (H : Heap) : Prop :=
  Spec Tryd.prog C 80 [sv p_a, sv p_b] H (fun v H2 => ∃ (r0 : Int), v = .int .i64 r0 ∧ K r0 H2)
theorem c_ref02_Bigs.mono {C : Ctx} {p_a : Str} {p_b : Str} {K K2 : Int → Heap → Prop} {H : Heap} (h : c_ref02_Bigs C p_a p_b K H) (hk : ∀ r0 H2, K r0 H2 → K2 r0 H2) : c_ref02_Bigs C p_a p_b K2 H :=
  Spec.mono h fun _ H2 ⟨r0, hv, h2⟩ => ⟨r0, hv, hk r0 H2 h2⟩
theorem c_ref02_Bigs.gh {C : Ctx} {p_a : Str} {p_b : Str} {K : Int → Heap → Prop} {H : Heap} (h : c_ref02_Bigs C p_a p_b (fun r0 H2 => ∃ H0, Gh C H2 H0 ∧ K r0 H0) H) : c_ref02_Bigs C p_a p_b K H :=
  Spec.gh (Spec.mono h fun _ H2 ⟨r0, hv, H0, hg, hk⟩ => ⟨H0, hg, r0, hv, hk⟩)
def c_ref02_texts (C : Ctx) (p_a : Str) (p_b : Str) (K : Int → Heap → Prop) (H : Heap) : Prop :=
  Spec Tryd.prog C 81 [sv p_a, sv p_b] H (fun v H2 => ∃ (r0 : Int), v = .int .i64 r0 ∧ K r0 H2)
theorem c_ref02_texts.mono {C : Ctx} {p_a : Str} {p_b : Str} {K K2 : Int → Heap → Prop} {H : Heap} (h : c_ref02_texts C p_a p_b K H) (hk : ∀ r0 H2, K r0 H2 → K2 r0 H2) : c_ref02_texts C p_a p_b K2 H :=
  Spec.mono h fun _ H2 ⟨r0, hv, h2⟩ => ⟨r0, hv, hk r0 H2 h2⟩
theorem c_ref02_texts.gh {C : Ctx} {p_a : Str} {p_b : Str} {K : Int → Heap → Prop} {H : Heap} (h : c_ref02_texts C p_a p_b (fun r0 H2 => ∃ H0, Gh C H2 H0 ∧ K r0 H0) H) : c_ref02_texts C p_a p_b K H :=
  Spec.gh (Spec.mono h fun _ H2 ⟨r0, hv, H0, hg, hk⟩ => ⟨H0, hg, r0, hv, hk⟩)
def c_ref02_Number (C : Ctx) (p_s : Str) (K : Bool → Heap → Prop) (H : Heap) : Prop :=
  Spec Tryd.prog C 82 [sv p_s] H (fun v H2 => ∃ (r0 : Bool), v = .bool r0 ∧ K r0 H2)
theorem c_ref02_Number.mono {C : Ctx} {p_s : Str} {K K2 : Bool → Heap → Prop} {H : Heap} (h : c_ref02_Number C p_s K H) (hk : ∀ r0 H2, K r0 H2 → K2 r0 H2) : c_ref02_Number C p_s K2 H :=
  Spec.mono h fun _ H2 ⟨r0, hv, h2⟩ => ⟨r0, hv, hk r0 H2 h2⟩
theorem c_ref02_Number.gh {C : Ctx} {p_s : Str} {K : Bool → Heap → Prop} {H : Heap} (h : c_ref02_Number C p_s (fun r0 H2 => ∃ H0, Gh C H2 H0 ∧ K r0 H0) H) : c_ref02_Number C p_s K H :=
  Spec.gh (Spec.mono h fun _ H2 ⟨r0, hv, H0, hg, hk⟩ => ⟨H0, hg, r0, hv, hk⟩)
def c_ref02_Names (C : Ctx) (p_s : Str) (K : Bool → Heap → Prop) (H : Heap) : Prop :=
  Spec Tryd.prog C 83 [sv p_s] H (fun v H2 => ∃ (r0 : Bool), v = .bool r0 ∧ K r0 H2)
theorem c_ref02_Names.mono {C : Ctx} {p_s : Str} {K K2 : Bool → Heap → Prop} {H : Heap} (h : c_ref02_Names C p_s K H) (hk : ∀ r0 H2, K r0 H2 → K2 r0 H2) : c_ref02_Names C p_s K2 H :=
  Spec.mono h fun _ H2 ⟨r0, hv, h2⟩ => ⟨r0, hv, hk r0 H2 h2⟩
theorem c_ref02_Names.gh {C : Ctx} {p_s : Str} {K : Bool → Heap → Prop} {H : Heap} (h : c_ref02_Names C p_s (fun r0 H2 => ∃ H0, Gh C H2 H0 ∧ K r0 H0) H) : c_ref02_Names C p_s K H :=
  Spec.gh (Spec.mono h fun _ H2 ⟨r0, hv, H0, hg, hk⟩ => ⟨H0, hg, r0, hv, hk⟩)
def c_ref02_Digits (C : Ctx) (p_s : Str) (K : Int → Heap → Prop) (H : Heap) : Prop :=
  Spec Tryd.prog C 84 [sv p_s] H (fun v H2 => ∃ (r0 : Int), v = .int .i64 r0 ∧ K r0 H2)
theorem c_ref02_Digits.mono {C : Ctx} {p_s : Str} {K K2 : Int → Heap → Prop} {H : Heap} (h : c_ref02_Digits C p_s K H) (hk : ∀ r0 H2, K r0 H2 → K2 r0 H2) : c_ref02_Digits C p_s K2 H :=
  Spec.mono h fun _ H2 ⟨r0, hv, h2⟩ => ⟨r0, hv, hk r0 H2 h2⟩
theorem c_ref02_Digits.gh {C : Ctx} {p_s : Str} {K : Int → Heap → Prop} {H : Heap} (h : c_ref02_Digits C p_s (fun r0 H2 => ∃ H0, Gh C H2 H0 ∧ K r0 H0) H) : c_ref02_Digits C p_s K H :=
  Spec.gh (Spec.mono h fun _ H2 ⟨r0, hv, H0, hg, hk⟩ => ⟨H0, hg, r0, hv, hk⟩)
def c_code_Reader_truth (C : Ctx) (p_r : Option (Nat × Nat)) (p_v : Option (Nat × Nat)) (p_deep : Int) (K : Heap → Prop) (H : Heap) : Prop :=
  Spec Tryd.prog C 85 [pv p_r, pv p_v, .int .i64 p_deep] H (fun v H2 => v = .tuple #[] ∧ K H2)
theorem c_code_Reader_truth.mono {C : Ctx} {p_r : Option (Nat × Nat)} {p_v : Option (Nat × Nat)} {p_deep : Int} {K K2 : Heap → Prop} {H : Heap} (h : c_code_Reader_truth C p_r p_v p_deep K H) (hk : ∀  H2, K  H2 → K2  H2) : c_code_Reader_truth C p_r p_v p_deep K2 H :=
  Spec.mono h fun _ H2 ⟨hv, h2⟩ => ⟨hv, hk H2 h2⟩
theorem c_code_Reader_truth.gh {C : Ctx} {p_r : Option (Nat × Nat)} {p_v : Option (Nat × Nat)} {p_deep : Int} {K : Heap → Prop} {H : Heap} (h : c_code_Reader_truth C p_r p_v p_deep (fun  H2 => ∃ H0, Gh C H2 H0 ∧ K  H0) H) : c_code_Reader_truth C p_r p_v p_deep K H :=
  Spec.gh (Spec.mono h fun _ H2 ⟨hv, H0, hg, hk⟩ => ⟨H0, hg, hv, hk⟩)
def c_code_Reader_whole (C : Ctx) (p_r : Option (Nat × Nat)) (p_v : Option (Nat × Nat)) (p_deep : Int) (K : Heap → Prop) (H : Heap) : Prop :=
  Spec Tryd.prog C 86 [pv p_r, pv p_v, .int .i64 p_deep] H (fun v H2 => v = .tuple #[] ∧ K H2)
theorem c_code_Reader_whole.mono {C : Ctx} {p_r : Option (Nat × Nat)} {p_v : Option (Nat × Nat)} {p_deep : Int} {K K2 : Heap → Prop} {H : Heap} (h : c_code_Reader_whole C p_r p_v p_deep K H) (hk : ∀  H2, K  H2 → K2  H2) : c_code_Reader_whole C p_r p_v p_deep K2 H :=
  Spec.mono h fun _ H2 ⟨hv, h2⟩ => ⟨hv, hk H2 h2⟩
theorem c_code_Reader_whole.gh {C : Ctx} {p_r : Option (Nat × Nat)} {p_v : Option (Nat × Nat)} {p_deep : Int} {K : Heap → Prop} {H : Heap} (h : c_code_Reader_whole C p_r p_v p_deep (fun  H2 => ∃ H0, Gh C H2 H0 ∧ K  H0) H) : c_code_Reader_whole C p_r p_v p_deep K H :=
  Spec.gh (Spec.mono h fun _ H2 ⟨hv, H0, hg, hk⟩ => ⟨H0, hg, hv, hk⟩)
def c_code_Reader_big (C : Ctx) (p_r : Option (Nat × Nat)) (p_v : Option (Nat × Nat)) (p_deep : Int) (K : Heap → Prop) (H : Heap) : Prop :=
  Spec Tryd.prog C 87 [pv p_r, pv p_v, .int .i64 p_deep] H (fun v H2 => v = .tuple #[] ∧ K H2)
theorem c_code_Reader_big.mono {C : Ctx} {p_r : Option (Nat × Nat)} {p_v : Option (Nat × Nat)} {p_deep : Int} {K K2 : Heap → Prop} {H : Heap} (h : c_code_Reader_big C p_r p_v p_deep K H) (hk : ∀  H2, K  H2 → K2  H2) : c_code_Reader_big C p_r p_v p_deep K2 H :=
  Spec.mono h fun _ H2 ⟨hv, h2⟩ => ⟨hv, hk H2 h2⟩
theorem c_code_Reader_big.gh {C : Ctx} {p_r : Option (Nat × Nat)} {p_v : Option (Nat × Nat)} {p_deep : Int} {K : Heap → Prop} {H : Heap} (h : c_code_Reader_big C p_r p_v p_deep (fun  H2 => ∃ H0, Gh C H2 H0 ∧ K  H0) H) : c_code_Reader_big C p_r p_v p_deep K H :=
  Spec.gh (Spec.mono h fun _ H2 ⟨hv, H0, hg, hk⟩ => ⟨H0, hg, hv, hk⟩)
def c_code_Reader_words (C : Ctx) (p_r : Option (Nat × Nat)) (p_v : Option (Nat × Nat)) (p_deep : Int) (K : Heap → Prop) (H : Heap) : Prop :=
  Spec Tryd.prog C 88 [pv p_r, pv p_v, .int .i64 p_deep] H (fun v H2 => v = .tuple #[] ∧ K H2)
theorem c_code_Reader_words.mono {C : Ctx} {p_r : Option (Nat × Nat)} {p_v : Option (Nat × Nat)} {p_deep : Int} {K K2 : Heap → Prop} {H : Heap} (h : c_code_Reader_words C p_r p_v p_deep K H) (hk : ∀  H2, K  H2 → K2  H2) : c_code_Reader_words C p_r p_v p_deep K2 H :=
  Spec.mono h fun _ H2 ⟨hv, h2⟩ => ⟨hv, hk H2 h2⟩
theorem c_code_Reader_words.gh {C : Ctx} {p_r : Option (Nat × Nat)} {p_v : Option (Nat × Nat)} {p_deep : Int} {K : Heap → Prop} {H : Heap} (h : c_code_Reader_words C p_r p_v p_deep (fun  H2 => ∃ H0, Gh C H2 H0 ∧ K  H0) H) : c_code_Reader_words C p_r p_v p_deep K H :=
  Spec.gh (Spec.mono h fun _ H2 ⟨hv, H0, hg, hk⟩ => ⟨H0, hg, hv, hk⟩)
def c_code_Reader_list (C : Ctx) (p_r : Option (Nat × Nat)) (p_v : Option (Nat × Nat)) (p_deep : Int) (K : Heap → Prop) (H : Heap) : Prop :=
  Spec Tryd.prog C 89 [pv p_r, pv p_v, .int .i64 p_deep] H (fun v H2 => v = .tuple #[] ∧ K H2)
theorem c_code_Reader_list.mono {C : Ctx} {p_r : Option (Nat × Nat)} {p_v : Option (Nat × Nat)} {p_deep : Int} {K K2 : Heap → Prop} {H : Heap} (h : c_code_Reader_list C p_r p_v p_deep K H) (hk : ∀  H2, K  H2 → K2  H2) : c_code_Reader_list C p_r p_v p_deep K2 H :=
  Spec.mono h fun _ H2 ⟨hv, h2⟩ => ⟨hv, hk H2 h2⟩
theorem c_code_Reader_list.gh {C : Ctx} {p_r : Option (Nat × Nat)} {p_v : Option (Nat × Nat)} {p_deep : Int} {K : Heap → Prop} {H : Heap} (h : c_code_Reader_list C p_r p_v p_deep (fun  H2 => ∃ H0, Gh C H2 H0 ∧ K  H0) H) : c_code_Reader_list C p_r p_v p_deep K H :=
  Spec.gh (Spec.mono h fun _ H2 ⟨hv, H0, hg, hk⟩ => ⟨H0, hg, hv, hk⟩)
def c_code_Reader_cons (C : Ctx) (p_r : Option (Nat × Nat)) (p_v : Option (Nat × Nat)) (p_deep : Int) (K : Heap → Prop) (H : Heap) : Prop :=
  Spec Tryd.prog C 90 [pv p_r, pv p_v, .int .i64 p_deep] H (fun v H2 => v = .tuple #[] ∧ K H2)
theorem c_code_Reader_cons.mono {C : Ctx} {p_r : Option (Nat × Nat)} {p_v : Option (Nat × Nat)} {p_deep : Int} {K K2 : Heap → Prop} {H : Heap} (h : c_code_Reader_cons C p_r p_v p_deep K H) (hk : ∀  H2, K  H2 → K2  H2) : c_code_Reader_cons C p_r p_v p_deep K2 H :=
  Spec.mono h fun _ H2 ⟨hv, h2⟩ => ⟨hv, hk H2 h2⟩
theorem c_code_Reader_cons.gh {C : Ctx} {p_r : Option (Nat × Nat)} {p_v : Option (Nat × Nat)} {p_deep : Int} {K : Heap → Prop} {H : Heap} (h : c_code_Reader_cons C p_r p_v p_deep (fun  H2 => ∃ H0, Gh C H2 H0 ∧ K  H0) H) : c_code_Reader_cons C p_r p_v p_deep K H :=
  Spec.gh (Spec.mono h fun _ H2 ⟨hv, H0, hg, hk⟩ => ⟨H0, hg, hv, hk⟩)
def c_value_number (C : Ctx) (p_s : Str) (K : Int → Bool → Heap → Prop) (H : Heap) : Prop :=
  Spec Tryd.prog C 91 [sv p_s] H (fun v H2 => ∃ (r0 : Int) (r1 : Bool), v = .tuple #[.int .i64 r0, .bool r1] ∧ K r0 r1 H2)
theorem c_value_number.mono {C : Ctx} {p_s : Str} {K K2 : Int → Bool → Heap → Prop} {H : Heap} (h : c_value_number C p_s K H) (hk : ∀ r0 r1 H2, K r0 r1 H2 → K2 r0 r1 H2) : c_value_number C p_s K2 H :=
  Spec.mono h fun _ H2 ⟨r0, r1, hv, h2⟩ => ⟨r0, r1, hv, hk r0 r1 H2 h2⟩
theorem c_value_number.gh {C : Ctx} {p_s : Str} {K : Int → Bool → Heap → Prop} {H : Heap} (h : c_value_number C p_s (fun r0 r1 H2 => ∃ H0, Gh C H2 H0 ∧ K r0 r1 H0) H) : c_value_number C p_s K H :=
  Spec.gh (Spec.mono h fun _ H2 ⟨r0, r1, hv, H0, hg, hk⟩ => ⟨H0, hg, r0, r1, hv, hk⟩)
def c_strings_Cut (C : Ctx) (p_s : Str) (p_sep : Str) (K : Str → Str → Bool → Heap → Prop) (H : Heap) : Prop :=
  Spec Tryd.prog C 92 [sv p_s, sv p_sep] H (fun v H2 => ∃ (r0 : Str) (r1 : Str) (r2 : Bool), v = .tuple #[sv r0, sv r1, .bool r2] ∧ K r0 r1 r2 H2)
theorem c_strings_Cut.mono {C : Ctx} {p_s : Str} {p_sep : Str} {K K2 : Str → Str → Bool → Heap → Prop} {H : Heap} (h : c_strings_Cut C p_s p_sep K H) (hk : ∀ r0 r1 r2 H2, K r0 r1 r2 H2 → K2 r0 r1 r2 H2) : c_strings_Cut C p_s p_sep K2 H :=
  Spec.mono h fun _ H2 ⟨r0, r1, r2, hv, h2⟩ => ⟨r0, r1, r2, hv, hk r0 r1 r2 H2 h2⟩
theorem c_strings_Cut.gh {C : Ctx} {p_s : Str} {p_sep : Str} {K : Str → Str → Bool → Heap → Prop} {H : Heap} (h : c_strings_Cut C p_s p_sep (fun r0 r1 r2 H2 => ∃ H0, Gh C H2 H0 ∧ K r0 r1 r2 H0) H) : c_strings_Cut C p_s p_sep K H :=
  Spec.gh (Spec.mono h fun _ H2 ⟨r0, r1, r2, hv, H0, hg, hk⟩ => ⟨H0, hg, r0, r1, r2, hv, hk⟩)
def c_value_name (C : Ctx) (p_s : Str) (K : Bool → Heap → Prop) (H : Heap) : Prop :=
  Spec Tryd.prog C 93 [sv p_s] H (fun v H2 => ∃ (r0 : Bool), v = .bool r0 ∧ K r0 H2)
theorem c_value_name.mono {C : Ctx} {p_s : Str} {K K2 : Bool → Heap → Prop} {H : Heap} (h : c_value_name C p_s K H) (hk : ∀ r0 H2, K r0 H2 → K2 r0 H2) : c_value_name C p_s K2 H :=
  Spec.mono h fun _ H2 ⟨r0, hv, h2⟩ => ⟨r0, hv, hk r0 H2 h2⟩
theorem c_value_name.gh {C : Ctx} {p_s : Str} {K : Bool → Heap → Prop} {H : Heap} (h : c_value_name C p_s (fun r0 H2 => ∃ H0, Gh C H2 H0 ∧ K r0 H0) H) : c_value_name C p_s K H :=
  Spec.gh (Spec.mono h fun _ H2 ⟨r0, hv, H0, hg, hk⟩ => ⟨H0, hg, r0, hv, hk⟩)
def c_strings_CutPrefix (C : Ctx) (p_s : Str) (p_prefix : Str) (K : Str → Bool → Heap → Prop) (H : Heap) : Prop :=
  Spec Tryd.prog C 94 [sv p_s, sv p_prefix] H (fun v H2 => ∃ (r0 : Str) (r1 : Bool), v = .tuple #[sv r0, .bool r1] ∧ K r0 r1 H2)
theorem c_strings_CutPrefix.mono {C : Ctx} {p_s : Str} {p_prefix : Str} {K K2 : Str → Bool → Heap → Prop} {H : Heap} (h : c_strings_CutPrefix C p_s p_prefix K H) (hk : ∀ r0 r1 H2, K r0 r1 H2 → K2 r0 r1 H2) : c_strings_CutPrefix C p_s p_prefix K2 H :=
  Spec.mono h fun _ H2 ⟨r0, r1, hv, h2⟩ => ⟨r0, r1, hv, hk r0 r1 H2 h2⟩
theorem c_strings_CutPrefix.gh {C : Ctx} {p_s : Str} {p_prefix : Str} {K : Str → Bool → Heap → Prop} {H : Heap} (h : c_strings_CutPrefix C p_s p_prefix (fun r0 r1 H2 => ∃ H0, Gh C H2 H0 ∧ K r0 r1 H0) H) : c_strings_CutPrefix C p_s p_prefix K H :=
  Spec.gh (Spec.mono h fun _ H2 ⟨r0, r1, hv, H0, hg, hk⟩ => ⟨H0, hg, r0, r1, hv, hk⟩)
def c_ref02_Name (C : Ctx) (p_s : Str) (K : Bool → Heap → Prop) (H : Heap) : Prop :=
  Spec Tryd.prog C 95 [sv p_s] H (fun v H2 => ∃ (r0 : Bool), v = .bool r0 ∧ K r0 H2)
theorem c_ref02_Name.mono {C : Ctx} {p_s : Str} {K K2 : Bool → Heap → Prop} {H : Heap} (h : c_ref02_Name C p_s K H) (hk : ∀ r0 H2, K r0 H2 → K2 r0 H2) : c_ref02_Name C p_s K2 H :=
  Spec.mono h fun _ H2 ⟨r0, hv, h2⟩ => ⟨r0, hv, hk r0 H2 h2⟩
theorem c_ref02_Name.gh {C : Ctx} {p_s : Str} {K : Bool → Heap → Prop} {H : Heap} (h : c_ref02_Name C p_s (fun r0 H2 => ∃ H0, Gh C H2 H0 ∧ K r0 H0) H) : c_ref02_Name C p_s K H :=
  Spec.gh (Spec.mono h fun _ H2 ⟨r0, hv, H0, hg, hk⟩ => ⟨H0, hg, r0, hv, hk⟩)
def c_strings_TrimPrefix (C : Ctx) (p_s : Str) (p_prefix : Str) (K : Str → Heap → Prop) (H : Heap) : Prop :=
  Spec Tryd.prog C 96 [sv p_s, sv p_prefix] H (fun v H2 => ∃ (r0 : Str), v = sv r0 ∧ K r0 H2)
theorem c_strings_TrimPrefix.mono {C : Ctx} {p_s : Str} {p_prefix : Str} {K K2 : Str → Heap → Prop} {H : Heap} (h : c_strings_TrimPrefix C p_s p_prefix K H) (hk : ∀ r0 H2, K r0 H2 → K2 r0 H2) : c_strings_TrimPrefix C p_s p_prefix K2 H :=
  Spec.mono h fun _ H2 ⟨r0, hv, h2⟩ => ⟨r0, hv, hk r0 H2 h2⟩
theorem c_strings_TrimPrefix.gh {C : Ctx} {p_s : Str} {p_prefix : Str} {K : Str → Heap → Prop} {H : Heap} (h : c_strings_TrimPrefix C p_s p_prefix (fun r0 H2 => ∃ H0, Gh C H2 H0 ∧ K r0 H0) H) : c_strings_TrimPrefix C p_s p_prefix K H :=
  Spec.gh (Spec.mono h fun _ H2 ⟨r0, hv, H0, hg, hk⟩ => ⟨H0, hg, r0, hv, hk⟩)
def c_strings_Trim (C : Ctx) (p_s : Str) (p_cutset : Str) (K : Str → Heap → Prop) (H : Heap) : Prop :=
  Spec Tryd.prog C 97 [sv p_s, sv p_cutset] H (fun v H2 => ∃ (r0 : Str), v = sv r0 ∧ K r0 H2)
theorem c_strings_Trim.mono {C : Ctx} {p_s : Str} {p_cutset : Str} {K K2 : Str → Heap → Prop} {H : Heap} (h : c_strings_Trim C p_s p_cutset K H) (hk : ∀ r0 H2, K r0 H2 → K2 r0 H2) : c_strings_Trim C p_s p_cutset K2 H :=
  Spec.mono h fun _ H2 ⟨r0, hv, h2⟩ => ⟨r0, hv, hk r0 H2 h2⟩
theorem c_strings_Trim.gh {C : Ctx} {p_s : Str} {p_cutset : Str} {K : Str → Heap → Prop} {H : Heap} (h : c_strings_Trim C p_s p_cutset (fun r0 H2 => ∃ H0, Gh C H2 H0 ∧ K r0 H0) H) : c_strings_Trim C p_s p_cutset K H :=
  Spec.gh (Spec.mono h fun _ H2 ⟨r0, hv, H0, hg, hk⟩ => ⟨H0, hg, r0, hv, hk⟩)
def c_internal_stringslite_Cut (C : Ctx) (p_s : Str) (p_sep : Str) (K : Str → Str → Bool → Heap → Prop) (H : Heap) : Prop :=
  Spec Tryd.prog C 98 [sv p_s, sv p_sep] H (fun v H2 => ∃ (r0 : Str) (r1 : Str) (r2 : Bool), v = .tuple #[sv r0, sv r1, .bool r2] ∧ K r0 r1 r2 H2)
theorem c_internal_stringslite_Cut.mono {C : Ctx} {p_s : Str} {p_sep : Str} {K K2 : Str → Str → Bool → Heap → Prop} {H : Heap} (h : c_internal_stringslite_Cut C p_s p_sep K H) (hk : ∀ r0 r1 r2 H2, K r0 r1 r2 H2 → K2 r0 r1 r2 H2) : c_internal_stringslite_Cut C p_s p_sep K2 H :=
  Spec.mono h fun _ H2 ⟨r0, r1, r2, hv, h2⟩ => ⟨r0, r1, r2, hv, hk r0 r1 r2 H2 h2⟩
theorem c_internal_stringslite_Cut.gh {C : Ctx} {p_s : Str} {p_sep : Str} {K : Str → Str → Bool → Heap → Prop} {H : Heap} (h : c_internal_stringslite_Cut C p_s p_sep (fun r0 r1 r2 H2 => ∃ H0, Gh C H2 H0 ∧ K r0 r1 r2 H0) H) : c_internal_stringslite_Cut C p_s p_sep K H :=
  Spec.gh (Spec.mono h fun _ H2 ⟨r0, r1, r2, hv, H0, hg, hk⟩ => ⟨H0, hg, r0, r1, r2, hv, hk⟩)
def c_internal_stringslite_CutPrefix (C : Ctx) (p_s : Str) (p_prefix : Str) (K : Str → Bool → Heap → Prop) (H : Heap) : Prop :=
  Spec Tryd.prog C 99 [sv p_s, sv p_prefix] H (fun v H2 => ∃ (r0 : Str) (r1 : Bool), v = .tuple #[sv r0, .bool r1] ∧ K r0 r1 H2)
theorem c_internal_stringslite_CutPrefix.mono {C : Ctx} {p_s : Str} {p_prefix : Str} {K K2 : Str → Bool → Heap → Prop} {H : Heap} (h : c_internal_stringslite_CutPrefix C p_s p_prefix K H) (hk : ∀ r0 r1 H2, K r0 r1 H2 → K2 r0 r1 H2) : c_internal_stringslite_CutPrefix C p_s p_prefix K2 H :=
  Spec.mono h fun _ H2 ⟨r0, r1, hv, h2⟩ => ⟨r0, r1, hv, hk r0 r1 H2 h2⟩
theorem c_internal_stringslite_CutPrefix.gh {C : Ctx} {p_s : Str} {p_prefix : Str} {K : Str → Bool → Heap → Prop} {H : Heap} (h : c_internal_stringslite_CutPrefix C p_s p_prefix (fun r0 r1 H2 => ∃ H0, Gh C H2 H0 ∧ K r0 r1 H0) H) : c_internal_stringslite_CutPrefix C p_s p_prefix K H :=
  Spec.gh (Spec.mono h fun _ H2 ⟨r0, r1, hv, H0, hg, hk⟩ => ⟨H0, hg, r0, r1, hv, hk⟩)
def c_ref02_letter (C : Ctx) (p_c : Int) (K : Bool → Heap → Prop) (H : Heap) : Prop :=
  Spec Tryd.prog C 100 [.int .u8 p_c] H (fun v H2 => ∃ (r0 : Bool), v = .bool r0 ∧ K r0 H2)
theorem c_ref02_letter.mono {C : Ctx} {p_c : Int} {K K2 : Bool → Heap → Prop} {H : Heap} (h : c_ref02_letter C p_c K H) (hk : ∀ r0 H2, K r0 H2 → K2 r0 H2) : c_ref02_letter C p_c K2 H :=
  Spec.mono h fun _ H2 ⟨r0, hv, h2⟩ => ⟨r0, hv, hk r0 H2 h2⟩
theorem c_ref02_letter.gh {C : Ctx} {p_c : Int} {K : Bool → Heap → Prop} {H : Heap} (h : c_ref02_letter C p_c (fun r0 H2 => ∃ H0, Gh C H2 H0 ∧ K r0 H0) H) : c_ref02_letter C p_c K H :=
  Spec.gh (Spec.mono h fun _ H2 ⟨r0, hv, H0, hg, hk⟩ => ⟨H0, hg, r0, hv, hk⟩)
def c_internal_stringslite_TrimPrefix (C : Ctx) (p_s : Str) (p_prefix : Str) (K : Str → Heap → Prop) (H : Heap) : Prop :=
  Spec Tryd.prog C 101 [sv p_s, sv p_prefix] H (fun v H2 => ∃ (r0 : Str), v = sv r0 ∧ K r0 H2)
theorem c_internal_stringslite_TrimPrefix.mono {C : Ctx} {p_s : Str} {p_prefix : Str} {K K2 : Str → Heap → Prop} {H : Heap} (h : c_internal_stringslite_TrimPrefix C p_s p_prefix K H) (hk : ∀ r0 H2, K r0 H2 → K2 r0 H2) : c_internal_stringslite_TrimPrefix C p_s p_prefix K2 H :=
  Spec.mono h fun _ H2 ⟨r0, hv, h2⟩ => ⟨r0, hv, hk r0 H2 h2⟩
theorem c_internal_stringslite_TrimPrefix.gh {C : Ctx} {p_s : Str} {p_prefix : Str} {K : Str → Heap → Prop} {H : Heap} (h : c_internal_stringslite_TrimPrefix C p_s p_prefix (fun r0 H2 => ∃ H0, Gh C H2 H0 ∧ K r0 H0) H) : c_internal_stringslite_TrimPrefix C p_s p_prefix K H :=
  Spec.gh (Spec.mono h fun _ H2 ⟨r0, hv, H0, hg, hk⟩ => ⟨H0, hg, r0, hv, hk⟩)
def c_strings_trimLeftByte (C : Ctx) (p_s : Str) (p_c : Int) (K : Str → Heap → Prop) (H : Heap) : Prop :=
  Spec Tryd.prog C 102 [sv p_s, .int .u8 p_c] H (fun v H2 => ∃ (r0 : Str), v = sv r0 ∧ K r0 H2)
theorem c_strings_trimLeftByte.mono {C : Ctx} {p_s : Str} {p_c : Int} {K K2 : Str → Heap → Prop} {H : Heap} (h : c_strings_trimLeftByte C p_s p_c K H) (hk : ∀ r0 H2, K r0 H2 → K2 r0 H2) : c_strings_trimLeftByte C p_s p_c K2 H :=
  Spec.mono h fun _ H2 ⟨r0, hv, h2⟩ => ⟨r0, hv, hk r0 H2 h2⟩
theorem c_strings_trimLeftByte.gh {C : Ctx} {p_s : Str} {p_c : Int} {K : Str → Heap → Prop} {H : Heap} (h : c_strings_trimLeftByte C p_s p_c (fun r0 H2 => ∃ H0, Gh C H2 H0 ∧ K r0 H0) H) : c_strings_trimLeftByte C p_s p_c K H :=
  Spec.gh (Spec.mono h fun _ H2 ⟨r0, hv, H0, hg, hk⟩ => ⟨H0, hg, r0, hv, hk⟩)
def c_strings_trimRightByte (C : Ctx) (p_s : Str) (p_c : Int) (K : Str → Heap → Prop) (H : Heap) : Prop :=
  Spec Tryd.prog C 103 [sv p_s, .int .u8 p_c] H (fun v H2 => ∃ (r0 : Str), v = sv r0 ∧ K r0 H2)
theorem c_strings_trimRightByte.mono {C : Ctx} {p_s : Str} {p_c : Int} {K K2 : Str → Heap → Prop} {H : Heap} (h : c_strings_trimRightByte C p_s p_c K H) (hk : ∀ r0 H2, K r0 H2 → K2 r0 H2) : c_strings_trimRightByte C p_s p_c K2 H :=
  Spec.mono h fun _ H2 ⟨r0, hv, h2⟩ => ⟨r0, hv, hk r0 H2 h2⟩
theorem c_strings_trimRightByte.gh {C : Ctx} {p_s : Str} {p_c : Int} {K : Str → Heap → Prop} {H : Heap} (h : c_strings_trimRightByte C p_s p_c (fun r0 H2 => ∃ H0, Gh C H2 H0 ∧ K r0 H0) H) : c_strings_trimRightByte C p_s p_c K H :=
  Spec.gh (Spec.mono h fun _ H2 ⟨r0, hv, H0, hg, hk⟩ => ⟨H0, hg, r0, hv, hk⟩)
def c_strings_makeASCIISet (C : Ctx) (p_chars : Str) (K : List Value → Bool → Heap → Prop) (H : Heap) : Prop :=
  Spec Tryd.prog C 104 [sv p_chars] H (fun v H2 => ∃ (r0 : List Value) (r1 : Bool), v = .tuple #[.agg (List.toArray r0), .bool r1] ∧ K r0 r1 H2)
theorem c_strings_makeASCIISet.mono {C : Ctx} {p_chars : Str} {K K2 : List Value → Bool → Heap → Prop} {H : Heap} (h : c_strings_makeASCIISet C p_chars K H) (hk : ∀ r0 r1 H2, K r0 r1 H2 → K2 r0 r1 H2) : c_strings_makeASCIISet C p_chars K2 H :=
  Spec.mono h fun _ H2 ⟨r0, r1, hv, h2⟩ => ⟨r0, r1, hv, hk r0 r1 H2 h2⟩
theorem c_strings_makeASCIISet.gh {C : Ctx} {p_chars : Str} {K : List Value → Bool → Heap → Prop} {H : Heap} (h : c_strings_makeASCIISet C p_chars (fun r0 r1 H2 => ∃ H0, Gh C H2 H0 ∧ K r0 r1 H0) H) : c_strings_makeASCIISet C p_chars K H :=
  Spec.gh (Spec.mono h fun _ H2 ⟨r0, r1, hv, H0, hg, hk⟩ => ⟨H0, hg, r0, r1, hv, hk⟩)
def c_strings_trimLeftASCII (C : Ctx) (p_s : Str) (p_as : Option (Nat × Nat)) (K : Str → Heap → Prop) (H : Heap) : Prop :=
  Spec Tryd.prog C 105 [sv p_s, pv p_as] H (fun v H2 => ∃ (r0 : Str), v = sv r0 ∧ K r0 H2)
theorem c_strings_trimLeftASCII.mono {C : Ctx} {p_s : Str} {p_as : Option (Nat × Nat)} {K K2 : Str → Heap → Prop} {H : Heap} (h : c_strings_trimLeftASCII C p_s p_as K H) (hk : ∀ r0 H2, K r0 H2 → K2 r0 H2) : c_strings_trimLeftASCII C p_s p_as K2 H :=
  Spec.mono h fun _ H2 ⟨r0, hv, h2⟩ => ⟨r0, hv, hk r0 H2 h2⟩
theorem c_strings_trimLeftASCII.gh {C : Ctx} {p_s : Str} {p_as : Option (Nat × Nat)} {K : Str → Heap → Prop} {H : Heap} (h : c_strings_trimLeftASCII C p_s p_as (fun r0 H2 => ∃ H0, Gh C H2 H0 ∧ K r0 H0) H) : c_strings_trimLeftASCII C p_s p_as K H :=
  Spec.gh (Spec.mono h fun _ H2 ⟨r0, hv, H0, hg, hk⟩ => ⟨H0, hg, r0, hv, hk⟩)
def c_strings_trimRightASCII (C : Ctx) (p_s : Str) (p_as : Option (Nat × Nat)) (K : Str → Heap → Prop) (H : Heap) : Prop :=
  Spec Tryd.prog C 106 [sv p_s, pv p_as] H (fun v H2 => ∃ (r0 : Str), v = sv r0 ∧ K r0 H2)
theorem c_strings_trimRightASCII.mono {C : Ctx} {p_s : Str} {p_as : Option (Nat × Nat)} {K K2 : Str → Heap → Prop} {H : Heap} (h : c_strings_trimRightASCII C p_s p_as K H) (hk : ∀ r0 H2, K r0 H2 → K2 r0 H2) : c_strings_trimRightASCII C p_s p_as K2 H :=
  Spec.mono h fun _ H2 ⟨r0, hv, h2⟩ => ⟨r0, hv, hk r0 H2 h2⟩
theorem c_strings_trimRightASCII.gh {C : Ctx} {p_s : Str} {p_as : Option (Nat × Nat)} {K : Str → Heap → Prop} {H : Heap} (h : c_strings_trimRightASCII C p_s p_as (fun r0 H2 => ∃ H0, Gh C H2 H0 ∧ K r0 H0) H) : c_strings_trimRightASCII C p_s p_as K H :=
  Spec.gh (Spec.mono h fun _ H2 ⟨r0, hv, H0, hg, hk⟩ => ⟨H0, hg, r0, hv, hk⟩)
def c_strings_trimLeftUnicode (C : Ctx) (p_s : Str) (p_cutset : Str) (K : Str → Heap → Prop) (H : Heap) : Prop :=
  Spec Tryd.prog C 107 [sv p_s, sv p_cutset] H (fun v H2 => ∃ (r0 : Str), v = sv r0 ∧ K r0 H2)
theorem c_strings_trimLeftUnicode.mono {C : Ctx} {p_s : Str} {p_cutset : Str} {K K2 : Str → Heap → Prop} {H : Heap} (h : c_strings_trimLeftUnicode C p_s p_cutset K H) (hk : ∀ r0 H2, K r0 H2 → K2 r0 H2) : c_strings_trimLeftUnicode C p_s p_cutset K2 H :=
  Spec.mono h fun _ H2 ⟨r0, hv, h2⟩ => ⟨r0, hv, hk r0 H2 h2⟩
theorem c_strings_trimLeftUnicode.gh {C : Ctx} {p_s : Str} {p_cutset : Str} {K : Str → Heap → Prop} {H : Heap} (h : c_strings_trimLeftUnicode C p_s p_cutset (fun r0 H2 => ∃ H0, Gh C H2 H0 ∧ K r0 H0) H) : c_strings_trimLeftUnicode C p_s p_cutset K H :=
  Spec.gh (Spec.mono h fun _ H2 ⟨r0, hv, H0, hg, hk⟩ => ⟨H0, hg, r0, hv, hk⟩)
def c_strings_trimRightUnicode (C : Ctx) (p_s : Str) (p_cutset : Str) (K : Str → Heap → Prop) (H : Heap) : Prop :=
  Spec Tryd.prog C 108 [sv p_s, sv p_cutset] H (fun v H2 => ∃ (r0 : Str), v = sv r0 ∧ K r0 H2)
theorem c_strings_trimRightUnicode.mono {C : Ctx} {p_s : Str} {p_cutset : Str} {K K2 : Str → Heap → Prop} {H : Heap} (h : c_strings_trimRightUnicode C p_s p_cutset K H) (hk : ∀ r0 H2, K r0 H2 → K2 r0 H2) : c_strings_trimRightUnicode C p_s p_cutset K2 H :=
  Spec.mono h fun _ H2 ⟨r0, hv, h2⟩ => ⟨r0, hv, hk r0 H2 h2⟩
theorem c_strings_trimRightUnicode.gh {C : Ctx} {p_s : Str} {p_cutset : Str} {K : Str → Heap → Prop} {H : Heap} (h : c_strings_trimRightUnicode C p_s p_cutset (fun r0 H2 => ∃ H0, Gh C H2 H0 ∧ K r0 H0) H) : c_strings_trimRightUnicode C p_s p_cutset K H :=
  Spec.gh (Spec.mono h fun _ H2 ⟨r0, hv, H0, hg, hk⟩ => ⟨H0, hg, r0, hv, hk⟩)
def c_internal_stringslite_Index (C : Ctx) (p_s : Str) (p_substr : Str) (K : Int → Heap → Prop) (H : Heap) : Prop :=
  Spec Tryd.prog C 109 [sv p_s, sv p_substr] H (fun v H2 => ∃ (r0 : Int), v = .int .i64 r0 ∧ K r0 H2)
theorem c_internal_stringslite_Index.mono {C : Ctx} {p_s : Str} {p_substr : Str} {K K2 : Int → Heap → Prop} {H : Heap} (h : c_internal_stringslite_Index C p_s p_substr K H) (hk : ∀ r0 H2, K r0 H2 → K2 r0 H2) : c_internal_stringslite_Index C p_s p_substr K2 H :=
  Spec.mono h fun _ H2 ⟨r0, hv, h2⟩ => ⟨r0, hv, hk r0 H2 h2⟩
theorem c_internal_stringslite_Index.gh {C : Ctx} {p_s : Str} {p_substr : Str} {K : Int → Heap → Prop} {H : Heap} (h : c_internal_stringslite_Index C p_s p_substr (fun r0 H2 => ∃ H0, Gh C H2 H0 ∧ K r0 H0) H) : c_internal_stringslite_Index C p_s p_substr K H :=
  Spec.gh (Spec.mono h fun _ H2 ⟨r0, hv, H0, hg, hk⟩ => ⟨H0, hg, r0, hv, hk⟩)
def c_internal_stringslite_HasPrefix (C : Ctx) (p_s : Str) (p_prefix : Str) (K : Bool → Heap → Prop) (H : Heap) : Prop :=
  Spec Tryd.prog C 110 [sv p_s, sv p_prefix] H (fun v H2 => ∃ (r0 : Bool), v = .bool r0 ∧ K r0 H2)
theorem c_internal_stringslite_HasPrefix.mono {C : Ctx} {p_s : Str} {p_prefix : Str} {K K2 : Bool → Heap → Prop} {H : Heap} (h : c_internal_stringslite_HasPrefix C p_s p_prefix K H) (hk : ∀ r0 H2, K r0 H2 → K2 r0 H2) : c_internal_stringslite_HasPrefix C p_s p_prefix K2 H :=
  Spec.mono h fun _ H2 ⟨r0, hv, h2⟩ => ⟨r0, hv, hk r0 H2 h2⟩
theorem c_internal_stringslite_HasPrefix.gh {C : Ctx} {p_s : Str} {p_prefix : Str} {K : Bool → Heap → Prop} {H : Heap} (h : c_internal_stringslite_HasPrefix C p_s p_prefix (fun r0 H2 => ∃ H0, Gh C H2 H0 ∧ K r0 H0) H) : c_internal_stringslite_HasPrefix C p_s p_prefix K H :=
  Spec.gh (Spec.mono h fun _ H2 ⟨r0, hv, H0, hg, hk⟩ => ⟨H0, hg, r0, hv, hk⟩)
def c_strings_asciiSet_contains (C : Ctx) (p_as : Option (Nat × Nat)) (p_c : Int) (K : Bool → Heap → Prop) (H : Heap) : Prop :=
  Spec Tryd.prog C 111 [pv p_as, .int .u8 p_c] H (fun v H2 => ∃ (r0 : Bool), v = .bool r0 ∧ K r0 H2)
theorem c_strings_asciiSet_contains.mono {C : Ctx} {p_as : Option (Nat × Nat)} {p_c : Int} {K K2 : Bool → Heap → Prop} {H : Heap} (h : c_strings_asciiSet_contains C p_as p_c K H) (hk : ∀ r0 H2, K r0 H2 → K2 r0 H2) : c_strings_asciiSet_contains C p_as p_c K2 H :=
  Spec.mono h fun _ H2 ⟨r0, hv, h2⟩ => ⟨r0, hv, hk r0 H2 h2⟩
theorem c_strings_asciiSet_contains.gh {C : Ctx} {p_as : Option (Nat × Nat)} {p_c : Int} {K : Bool → Heap → Prop} {H : Heap} (h : c_strings_asciiSet_contains C p_as p_c (fun r0 H2 => ∃ H0, Gh C H2 H0 ∧ K r0 H0) H) : c_strings_asciiSet_contains C p_as p_c K H :=
  Spec.gh (Spec.mono h fun _ H2 ⟨r0, hv, H0, hg, hk⟩ => ⟨H0, hg, r0, hv, hk⟩)
def c_unicode_utf8_DecodeRuneInString (C : Ctx) (p_s : Str) (K : Int → Int → Heap → Prop) (H : Heap) : Prop :=
  Spec Tryd.prog C 112 [sv p_s] H (fun v H2 => ∃ (r0 : Int) (r1 : Int), v = .tuple #[.int .i32 r0, .int .i64 r1] ∧ K r0 r1 H2)
theorem c_unicode_utf8_DecodeRuneInString.mono {C : Ctx} {p_s : Str} {K K2 : Int → Int → Heap → Prop} {H : Heap} (h : c_unicode_utf8_DecodeRuneInString C p_s K H) (hk : ∀ r0 r1 H2, K r0 r1 H2 → K2 r0 r1 H2) : c_unicode_utf8_DecodeRuneInString C p_s K2 H :=
  Spec.mono h fun _ H2 ⟨r0, r1, hv, h2⟩ => ⟨r0, r1, hv, hk r0 r1 H2 h2⟩
theorem c_unicode_utf8_DecodeRuneInString.gh {C : Ctx} {p_s : Str} {K : Int → Int → Heap → Prop} {H : Heap} (h : c_unicode_utf8_DecodeRuneInString C p_s (fun r0 r1 H2 => ∃ H0, Gh C H2 H0 ∧ K r0 r1 H0) H) : c_unicode_utf8_DecodeRuneInString C p_s K H :=
  Spec.gh (Spec.mono h fun _ H2 ⟨r0, r1, hv, H0, hg, hk⟩ => ⟨H0, hg, r0, r1, hv, hk⟩)
def c_strings_ContainsRune (C : Ctx) (p_s : Str) (p_r : Int) (K : Bool → Heap → Prop) (H : Heap) : Prop :=
  Spec Tryd.prog C 113 [sv p_s, .int .i32 p_r] H (fun v H2 => ∃ (r0 : Bool), v = .bool r0 ∧ K r0 H2)
theorem c_strings_ContainsRune.mono {C : Ctx} {p_s : Str} {p_r : Int} {K K2 : Bool → Heap → Prop} {H : Heap} (h : c_strings_ContainsRune C p_s p_r K H) (hk : ∀ r0 H2, K r0 H2 → K2 r0 H2) : c_strings_ContainsRune C p_s p_r K2 H :=
  Spec.mono h fun _ H2 ⟨r0, hv, h2⟩ => ⟨r0, hv, hk r0 H2 h2⟩
theorem c_strings_ContainsRune.gh {C : Ctx} {p_s : Str} {p_r : Int} {K : Bool → Heap → Prop} {H : Heap} (h : c_strings_ContainsRune C p_s p_r (fun r0 H2 => ∃ H0, Gh C H2 H0 ∧ K r0 H0) H) : c_strings_ContainsRune C p_s p_r K H :=
  Spec.gh (Spec.mono h fun _ H2 ⟨r0, hv, H0, hg, hk⟩ => ⟨H0, hg, r0, hv, hk⟩)
def c_unicode_utf8_DecodeLastRuneInString (C : Ctx) (p_s : Str) (K : Int → Int → Heap → Prop) (H : Heap) : Prop :=
  Spec Tryd.prog C 114 [sv p_s] H (fun v H2 => ∃ (r0 : Int) (r1 : Int), v = .tuple #[.int .i32 r0, .int .i64 r1] ∧ K r0 r1 H2)
theorem c_unicode_utf8_DecodeLastRuneInString.mono {C : Ctx} {p_s : Str} {K K2 : Int → Int → Heap → Prop} {H : Heap} (h : c_unicode_utf8_DecodeLastRuneInString C p_s K H) (hk : ∀ r0 r1 H2, K r0 r1 H2 → K2 r0 r1 H2) : c_unicode_utf8_DecodeLastRuneInString C p_s K2 H :=
  Spec.mono h fun _ H2 ⟨r0, r1, hv, h2⟩ => ⟨r0, r1, hv, hk r0 r1 H2 h2⟩
theorem c_unicode_utf8_DecodeLastRuneInString.gh {C : Ctx} {p_s : Str} {K : Int → Int → Heap → Prop} {H : Heap} (h : c_unicode_utf8_DecodeLastRuneInString C p_s (fun r0 r1 H2 => ∃ H0, Gh C H2 H0 ∧ K r0 r1 H0) H) : c_unicode_utf8_DecodeLastRuneInString C p_s K H :=
  Spec.gh (Spec.mono h fun _ H2 ⟨r0, r1, hv, H0, hg, hk⟩ => ⟨H0, hg, r0, r1, hv, hk⟩)
def c_internal_stringslite_IndexByte (C : Ctx) (p_s : Str) (p_c : Int) (K : Int → Heap → Prop) (H : Heap) : Prop :=
  Spec Tryd.prog C 115 [sv p_s, .int .u8 p_c] H (fun v H2 => ∃ (r0 : Int), v = .int .i64 r0 ∧ K r0 H2)
theorem c_internal_stringslite_IndexByte.mono {C : Ctx} {p_s : Str} {p_c : Int} {K K2 : Int → Heap → Prop} {H : Heap} (h : c_internal_stringslite_IndexByte C p_s p_c K H) (hk : ∀ r0 H2, K r0 H2 → K2 r0 H2) : c_internal_stringslite_IndexByte C p_s p_c K2 H :=
  Spec.mono h fun _ H2 ⟨r0, hv, h2⟩ => ⟨r0, hv, hk r0 H2 h2⟩
theorem c_internal_stringslite_IndexByte.gh {C : Ctx} {p_s : Str} {p_c : Int} {K : Int → Heap → Prop} {H : Heap} (h : c_internal_stringslite_IndexByte C p_s p_c (fun r0 H2 => ∃ H0, Gh C H2 H0 ∧ K r0 H0) H) : c_internal_stringslite_IndexByte C p_s p_c K H :=
  Spec.gh (Spec.mono h fun _ H2 ⟨r0, hv, H0, hg, hk⟩ => ⟨H0, hg, r0, hv, hk⟩)
def c_internal_bytealg_Cutover (C : Ctx) (p_n : Int) (K : Int → Heap → Prop) (H : Heap) : Prop :=
  Spec Tryd.prog C 117 [.int .i64 p_n] H (fun v H2 => ∃ (r0 : Int), v = .int .i64 r0 ∧ K r0 H2)
theorem c_internal_bytealg_Cutover.mono {C : Ctx} {p_n : Int} {K K2 : Int → Heap → Prop} {H : Heap} (h : c_internal_bytealg_Cutover C p_n K H) (hk : ∀ r0 H2, K r0 H2 → K2 r0 H2) : c_internal_bytealg_Cutover C p_n K2 H :=
  Spec.mono h fun _ H2 ⟨r0, hv, h2⟩ => ⟨r0, hv, hk r0 H2 h2⟩
theorem c_internal_bytealg_Cutover.gh {C : Ctx} {p_n : Int} {K : Int → Heap → Prop} {H : Heap} (h : c_internal_bytealg_Cutover C p_n (fun r0 H2 => ∃ H0, Gh C H2 H0 ∧ K r0 H0) H) : c_internal_bytealg_Cutover C p_n K H :=
  Spec.gh (Spec.mono h fun _ H2 ⟨r0, hv, H0, hg, hk⟩ => ⟨H0, hg, r0, hv, hk⟩)
def c_internal_bytealg_IndexRabinKarp_string (C : Ctx) (p_s : Str) (p_sep : Str) (K : Int → Heap → Prop) (H : Heap) : Prop :=
  Spec Tryd.prog C 118 [sv p_s, sv p_sep] H (fun v H2 => ∃ (r0 : Int), v = .int .i64 r0 ∧ K r0 H2)
theorem c_internal_bytealg_IndexRabinKarp_string.mono {C : Ctx} {p_s : Str} {p_sep : Str} {K K2 : Int → Heap → Prop} {H : Heap} (h : c_internal_bytealg_IndexRabinKarp_string C p_s p_sep K H) (hk : ∀ r0 H2, K r0 H2 → K2 r0 H2) : c_internal_bytealg_IndexRabinKarp_string C p_s p_sep K2 H :=
  Spec.mono h fun _ H2 ⟨r0, hv, h2⟩ => ⟨r0, hv, hk r0 H2 h2⟩
theorem c_internal_bytealg_IndexRabinKarp_string.gh {C : Ctx} {p_s : Str} {p_sep : Str} {K : Int → Heap → Prop} {H : Heap} (h : c_internal_bytealg_IndexRabinKarp_string C p_s p_sep (fun r0 H2 => ∃ H0, Gh C H2 H0 ∧ K r0 H0) H) : c_internal_bytealg_IndexRabinKarp_string C p_s p_sep K H :=
  Spec.gh (Spec.mono h fun _ H2 ⟨r0, hv, H0, hg, hk⟩ => ⟨H0, hg, r0, hv, hk⟩)
def c_unicode_utf8_decodeRuneInStringSlow (C : Ctx) (p_s : Str) (K : Int → Int → Heap → Prop) (H : Heap) : Prop :=
  Spec Tryd.prog C 119 [sv p_s] H (fun v H2 => ∃ (r0 : Int) (r1 : Int), v = .tuple #[.int .i32 r0, .int .i64 r1] ∧ K r0 r1 H2)
theorem c_unicode_utf8_decodeRuneInStringSlow.mono {C : Ctx} {p_s : Str} {K K2 : Int → Int → Heap → Prop} {H : Heap} (h : c_unicode_utf8_decodeRuneInStringSlow C p_s K H) (hk : ∀ r0 r1 H2, K r0 r1 H2 → K2 r0 r1 H2) : c_unicode_utf8_decodeRuneInStringSlow C p_s K2 H :=
  Spec.mono h fun _ H2 ⟨r0, r1, hv, h2⟩ => ⟨r0, r1, hv, hk r0 r1 H2 h2⟩
theorem c_unicode_utf8_decodeRuneInStringSlow.gh {C : Ctx} {p_s : Str} {K : Int → Int → Heap → Prop} {H : Heap} (h : c_unicode_utf8_decodeRuneInStringSlow C p_s (fun r0 r1 H2 => ∃ H0, Gh C H2 H0 ∧ K r0 r1 H0) H) : c_unicode_utf8_decodeRuneInStringSlow C p_s K H :=
  Spec.gh (Spec.mono h fun _ H2 ⟨r0, r1, hv, H0, hg, hk⟩ => ⟨H0, hg, r0, r1, hv, hk⟩)
def c_strings_IndexRune (C : Ctx) (p_s : Str) (p_r : Int) (K : Int → Heap → Prop) (H : Heap) : Prop :=
  Spec Tryd.prog C 120 [sv p_s, .int .i32 p_r] H (fun v H2 => ∃ (r0 : Int), v = .int .i64 r0 ∧ K r0 H2)
theorem c_strings_IndexRune.mono {C : Ctx} {p_s : Str} {p_r : Int} {K K2 : Int → Heap → Prop} {H : Heap} (h : c_strings_IndexRune C p_s p_r K H) (hk : ∀ r0 H2, K r0 H2 → K2 r0 H2) : c_strings_IndexRune C p_s p_r K2 H :=
  Spec.mono h fun _ H2 ⟨r0, hv, h2⟩ => ⟨r0, hv, hk r0 H2 h2⟩
theorem c_strings_IndexRune.gh {C : Ctx} {p_s : Str} {p_r : Int} {K : Int → Heap → Prop} {H : Heap} (h : c_strings_IndexRune C p_s p_r (fun r0 H2 => ∃ H0, Gh C H2 H0 ∧ K r0 H0) H) : c_strings_IndexRune C p_s p_r K H :=
  Spec.gh (Spec.mono h fun _ H2 ⟨r0, hv, H0, hg, hk⟩ => ⟨H0, hg, r0, hv, hk⟩)
def c_unicode_utf8_RuneStart (C : Ctx) (p_b : Int) (K : Bool → Heap → Prop) (H : Heap) : Prop :=
  Spec Tryd.prog C 121 [.int .u8 p_b] H (fun v H2 => ∃ (r0 : Bool), v = .bool r0 ∧ K r0 H2)
theorem c_unicode_utf8_RuneStart.mono {C : Ctx} {p_b : Int} {K K2 : Bool → Heap → Prop} {H : Heap} (h : c_unicode_utf8_RuneStart C p_b K H) (hk : ∀ r0 H2, K r0 H2 → K2 r0 H2) : c_unicode_utf8_RuneStart C p_b K2 H :=
  Spec.mono h fun _ H2 ⟨r0, hv, h2⟩ => ⟨r0, hv, hk r0 H2 h2⟩
theorem c_unicode_utf8_RuneStart.gh {C : Ctx} {p_b : Int} {K : Bool → Heap → Prop} {H : Heap} (h : c_unicode_utf8_RuneStart C p_b (fun r0 H2 => ∃ H0, Gh C H2 H0 ∧ K r0 H0) H) : c_unicode_utf8_RuneStart C p_b K H :=
  Spec.gh (Spec.mono h fun _ H2 ⟨r0, hv, H0, hg, hk⟩ => ⟨H0, hg, r0, hv, hk⟩)
def c_internal_bytealg_hashStr_string (C : Ctx) (p_sep : Str) (K : Int → Int → Heap → Prop) (H : Heap) : Prop :=
  Spec Tryd.prog C 123 [sv p_sep] H (fun v H2 => ∃ (r0 : Int) (r1 : Int), v = .tuple #[.int .u32 r0, .int .u32 r1] ∧ K r0 r1 H2)
theorem c_internal_bytealg_hashStr_string.mono {C : Ctx} {p_sep : Str} {K K2 : Int → Int → Heap → Prop} {H : Heap} (h : c_internal_bytealg_hashStr_string C p_sep K H) (hk : ∀ r0 r1 H2, K r0 r1 H2 → K2 r0 r1 H2) : c_internal_bytealg_hashStr_string C p_sep K2 H :=
  Spec.mono h fun _ H2 ⟨r0, r1, hv, h2⟩ => ⟨r0, r1, hv, hk r0 r1 H2 h2⟩
theorem c_internal_bytealg_hashStr_string.gh {C : Ctx} {p_sep : Str} {K : Int → Int → Heap → Prop} {H : Heap} (h : c_internal_bytealg_hashStr_string C p_sep (fun r0 r1 H2 => ∃ H0, Gh C H2 H0 ∧ K r0 r1 H0) H) : c_internal_bytealg_hashStr_string C p_sep K H :=
  Spec.gh (Spec.mono h fun _ H2 ⟨r0, r1, hv, H0, hg, hk⟩ => ⟨H0, hg, r0, r1, hv, hk⟩)
def c_strings_IndexByte (C : Ctx) (p_s : Str) (p_c : Int) (K : Int → Heap → Prop) (H : Heap) : Prop :=
  Spec Tryd.prog C 124 [sv p_s, .int .u8 p_c] H (fun v H2 => ∃ (r0 : Int), v = .int .i64 r0 ∧ K r0 H2)
theorem c_strings_IndexByte.mono {C : Ctx} {p_s : Str} {p_c : Int} {K K2 : Int → Heap → Prop} {H : Heap} (h : c_strings_IndexByte C p_s p_c K H) (hk : ∀ r0 H2, K r0 H2 → K2 r0 H2) : c_strings_IndexByte C p_s p_c K2 H :=
  Spec.mono h fun _ H2 ⟨r0, hv, h2⟩ => ⟨r0, hv, hk r0 H2 h2⟩
theorem c_strings_IndexByte.gh {C : Ctx} {p_s : Str} {p_c : Int} {K : Int → Heap → Prop} {H : Heap} (h : c_strings_IndexByte C p_s p_c (fun r0 H2 => ∃ H0, Gh C H2 H0 ∧ K r0 H0) H) : c_strings_IndexByte C p_s p_c K H :=
  Spec.gh (Spec.mono h fun _ H2 ⟨r0, hv, H0, hg, hk⟩ => ⟨H0, hg, r0, hv, hk⟩)
def c_unicode_utf8_ValidRune (C : Ctx) (p_r : Int) (K : Bool → Heap → Prop) (H : Heap) : Prop :=
  Spec Tryd.prog C 125 [.int .i32 p_r] H (fun v H2 => ∃ (r0 : Bool), v = .bool r0 ∧ K r0 H2)
theorem c_unicode_utf8_ValidRune.mono {C : Ctx} {p_r : Int} {K K2 : Bool → Heap → Prop} {H : Heap} (h : c_unicode_utf8_ValidRune C p_r K H) (hk : ∀ r0 H2, K r0 H2 → K2 r0 H2) : c_unicode_utf8_ValidRune C p_r K2 H :=
  Spec.mono h fun _ H2 ⟨r0, hv, h2⟩ => ⟨r0, hv, hk r0 H2 h2⟩
theorem c_unicode_utf8_ValidRune.gh {C : Ctx} {p_r : Int} {K : Bool → Heap → Prop} {H : Heap} (h : c_unicode_utf8_ValidRune C p_r (fun r0 H2 => ∃ H0, Gh C H2 H0 ∧ K r0 H0) H) : c_unicode_utf8_ValidRune C p_r K H :=
  Spec.gh (Spec.mono h fun _ H2 ⟨r0, hv, H0, hg, hk⟩ => ⟨H0, hg, r0, hv, hk⟩)



def sh_law03_CodePuts (C : Ctx) (p_b : Sl) (p_n : Int) (p_c : Int) (p_s : Str) (p_is : Bool) (p_v : T_api_Value) (K : Bool → Heap → Prop) (H : Heap) : Prop :=
  nw (T_api_Value.c p_v) (fun b1 H2 =>
 ldT H2 T_api_Value.c (b1, 0) fun x3 =>
 c_law03_wide C x3 (fun r5 H6 =>
 ift r5
 (c_law03_works C (fun r8 H9 =>
 K r8 H9) H6)
 (nw ([]) (fun b10 H11 =>
 apS ([.int .u8 0]) 1 (Sl.of (some (b10, 0)) 0 0) p_b (fun r12 H13 =>
 lp (α := Int) 0 H13 (fun x14 J15 H16 =>
 ift (decide ((x14 : Int) < 2))
 (jn (α := Bool) (fun x19 H20 =>
 ift x19
 (K false H20)
 (J15 (w .i64 (x14 + 1)) H20))
 (fun J18 => dr H16 fun Hs22 =>
 c_code_Num C p_b p_n (fun r25 H26 =>
 Heap.le Hs22 H26 ∧
 c_ref03_Num C r12 p_n (fun r28 H29 =>
 Heap.le Hs22 H29 ∧
 c_law03_put C r25 r28 (fun r31 H32 =>
 Heap.le Hs22 H32 ∧
 ift (!r31)
 (J18 true H32)
 (c_code_Count C p_b p_c (fun r35 H36 =>
 Heap.le Hs22 H36 ∧
 c_ref03_Count C r12 p_c (fun r38 H39 =>
 Heap.le Hs22 H39 ∧
 c_law03_put C r35 r38 (fun r41 H42 =>
 Heap.le Hs22 H42 ∧
 ift (!r41)
 (J18 true H42)
 (c_code_Str C p_b p_s (fun r45 H46 =>
 Heap.le Hs22 H46 ∧
 c_ref03_Str C r12 p_s (fun r48 H49 =>
 Heap.le Hs22 H49 ∧
 c_law03_put C r45 r48 (fun r51 H52 =>
 Heap.le Hs22 H52 ∧
 ift (!r51)
 (J18 true H52)
 (c_code_Flag C p_b p_is (fun r55 H56 =>
 Heap.le Hs22 H56 ∧
 c_ref03_Flag C r12 p_is (fun r58 H59 =>
 Heap.le Hs22 H59 ∧
 c_law03_put C r55 r58 (fun r61 H62 =>
 Heap.le Hs22 H62 ∧
 ift (!r61)
 (J18 true H62)
 (ldT Hs22 T_api_Value.c (b1, 0) fun x64 =>
 ldT Hs22 T_api_Value.c (b1, 0) fun x66 =>
 c_code_Value C p_b x64 (fun r69 H70 =>
 Heap.le Hs22 H70 ∧
 c_ref03_Value C r12 x66 (fun r72 H73 =>
 Heap.le Hs22 H73 ∧
 c_law03_put C r69 r72 (fun r75 H76 =>
 Heap.le Hs22 H76 ∧
 J18 (!r75) H76) H73) H70) H62)) H59) H56) H52)) H49) H46) H42)) H39) H36) H32)) H29) H26) H16))
 (b2s p_b (fun t78 =>
 b2s r12 (fun t81 =>
 jn (α := Bool) (fun b84 H90 =>
 K b84 H90)
 (fun J85 => ift (t78 == t81)
 (c_law03_works C (fun r88 H89 =>
 J85 r88 H89) H16)
 (J85 false H16))) H16) H16))) H11) H6)) H2) H

theorem ad_law03_CodePuts (C : Ctx) (p_b : Sl) (p_n : Int) (p_c : Int) (p_s : Str) (p_is : Bool) (p_v : T_api_Value) (K : Bool → Heap → Prop) (H : Heap) (h : sh_law03_CodePuts C p_b p_n p_c p_s p_is p_v K H) : c_law03_CodePuts C p_b p_n p_c p_s p_is p_v K H := by
  refine Spec.enter Tryd.func3 rfl Tryd.ntmps3 rfl ?_
  refine GC.sub [(0, slv p_b), (1, .int .i64 p_n), (2, .int .i64 p_c), (3, sv p_s), (4, .bool p_is), (5, .agg (T_api_Value.c p_v).toArray)] ⟨rfl, rfl, rfl, rfl, rfl, rfl, trivial⟩ ?_
  refine GC.seq ?_
  refine GC.region ?_
  refine GL.box (v := .agg (T_api_Value.c p_v).toArray) (cs := T_api_Value.c p_v) h trivial rfl rfl rfl ?_
  intro b1 H2 h
  refine GL.val trivial rfl (OV.assign (v := .bool false) rfl) ?_
  refine GL.nil ?_
  refine GC.seq ?_
  refine GC.seq ?_
  refine GC.region ?_
  obtain ⟨x3, hr4, h⟩ := h
  refine GL.val trivial rfl (OV.loadT (p := (b1, 0)) (cs := T_api_Value.c x3) rfl rfl rfl hr4) ?_
  refine GL.call h trivial rfl ok_law03_wide (vs := [.agg (T_api_Value.c x3).toArray]) rfl ?_
  rintro _ H6 ⟨r5, rfl, h⟩
  refine GL.nil ?_
  refine GC.cond (b := r5) rfl (fun hc7 => ?_) (fun hc7 => ?_)
  · replace h := And.left h hc7
    refine GC.seq ?_
    refine GC.region ?_
    refine GL.call h trivial rfl ok_law03_works (vs := []) rfl ?_
    rintro _ H9 ⟨r8, rfl, h⟩
    refine GL.val trivial rfl (OV.assign (v := .bool r8) rfl) ?_
    refine GL.nil ?_
    exact GC.ret (fun _ _ hf hs => post_tmp1 rfl rfl hf hs ⟨r8, rfl, h⟩)
  · replace h := And.right h hc7
    refine GC.skip ?_
    refine GC.seq ?_
    refine GC.region ?_
    refine GL.buildSlice (cs := []) h trivial rfl (vs := []) rfl ⟨5, fun _ => by kernel_rfl⟩ ?_
    intro b10 H11 h
    refine GL.val trivial rfl (OV.move (v := slv p_b) rfl) ?_
    refine GL.appendS (s := (Sl.of (some (b10, 0)) 0 0)) (s2 := p_b) (zc := [.int .u8 0]) (bytes := 1) h trivial rfl rfl rfl ⟨⟨_, _, _, rfl, rfl, rfl, rfl, rfl, rfl⟩⟩ rfl ?_
    intro r12 H13 h
    refine GL.val trivial rfl (OV.assign (v := slv r12) rfl) ?_
    refine GL.nil ?_
    refine GC.seq ?_
    refine GC.seq ?_
    refine GC.region ?_
    refine GL.val trivial rfl (OV.assign (v := .int .i64 0) rfl) ?_
    refine GL.nil ?_
    refine GC.block ?_
    refine GC.loop (α := Int) h (fun x14 => [(14, .int .i64 x14), (0, slv p_b), (1, .int .i64 p_n), (2, .int .i64 p_c), (3, sv p_s), (4, .bool p_is), (11, pv (some (b1, 0))), (13, slv r12)]) ⟨rfl, rfl, rfl, rfl, rfl, rfl, rfl, rfl, trivial⟩ ?_
    intro x14 H16 J15 h
    refine GC.seq ?_
    refine GC.seq ?_
    refine GC.region ?_
    refine GL.val trivial rfl (OV.move (v := .int .i64 x14) rfl) ?_
    refine GL.val trivial rfl (OV.ibin (v := .bool (decide ((x14 : Int) < 2))) rfl rfl rfl) ?_
    refine GL.nil ?_
    refine GC.cond (b := decide ((x14 : Int) < 2)) rfl (fun hc17 => ?_) (fun hc17 => ?_)
    · replace h := And.left h hc17
      refine GC.skip ?_
      refine GC.seq ?_
      refine GC.block ?_
      refine GC.seq ?_
      obtain ⟨J18, h, hR21⟩ := h
      refine GC.meet (α := Bool) J18 (fun x19 => [(72, .bool x19), (0, slv p_b), (1, .int .i64 p_n), (2, .int .i64 p_c), (3, sv p_s), (4, .bool p_is), (11, pv (some (b1, 0))), (13, slv r12), (14, .int .i64 x14)]) ?_ ?_
      · skip
        obtain ⟨Hs22, hle23, h⟩ := h
        refine GC.any (Hs := Hs22) (by kernel_rfl) hle23 ?_
        refine GA.take 0 rfl (by kernel_rfl) (by kernel_rfl) (by kernel_rfl) (fun _ _ _ h => by obtain ⟨_, _, _, h, _⟩ := h; cases h) trivial rfl (OV.move (v := slv p_b) rfl) ?_
        refine GA.take 1 rfl (by kernel_rfl) (by kernel_rfl) (by kernel_rfl) (fun _ _ _ h => by obtain ⟨_, _, _, h, _⟩ := h; cases h) trivial rfl (OV.move (v := .int .i64 p_n) rfl) ?_
        refine GA.take 3 rfl (by kernel_rfl) (by kernel_rfl) (by kernel_rfl) (fun _ _ _ h => by obtain ⟨_, _, _, h, _⟩ := h; cases h) trivial rfl (OV.move (v := slv r12) rfl) ?_
        refine GA.take 4 rfl (by kernel_rfl) (by kernel_rfl) (by kernel_rfl) (fun _ _ _ h => by obtain ⟨_, _, _, h, _⟩ := h; cases h) trivial rfl (OV.move (v := .int .i64 p_n) rfl) ?_
        refine GA.eff 2 rfl (by kernel_rfl) ?_
        refine GL.call h trivial rfl ok_code_Num (vs := [slv p_b, .int .i64 p_n]) rfl ?_
        rintro _ H26 ⟨r25, rfl, h⟩
        obtain ⟨hle24, h⟩ := h
        refine GA.back hle24 ?_
        refine GA.eff 5 rfl (by kernel_rfl) ?_
        refine GL.call h trivial rfl ok_ref03_Num (vs := [slv r12, .int .i64 p_n]) rfl ?_
        rintro _ H29 ⟨r28, rfl, h⟩
        obtain ⟨hle27, h⟩ := h
        refine GA.back hle27 ?_
        refine GA.eff 6 rfl (by kernel_rfl) ?_
        refine GL.call h trivial rfl ok_law03_put (vs := [slv r25, slv r28]) rfl ?_
        rintro _ H32 ⟨r31, rfl, h⟩
        obtain ⟨hle30, h⟩ := h
        refine GA.back hle30 ?_
        refine GA.take 7 rfl (by kernel_rfl) (by kernel_rfl) (by kernel_rfl) (fun _ _ _ h => by obtain ⟨_, _, _, h, _⟩ := h; cases h) trivial rfl (OV.not rfl) ?_
        refine GA.take 8 rfl (by kernel_rfl) (by kernel_rfl) (by kernel_rfl) (fun _ _ _ h => by obtain ⟨_, _, _, h, _⟩ := h; cases h) trivial rfl (OV.move (v := .bool (!r31)) rfl) ?_
        rcases Bool.eq_false_or_eq_true (!r31) with hc33 | hc33
        · replace h := And.left h hc33
          refine GA.skip 9 rfl (by kernel_rfl) (by kernel_rfl) (by kernel_rfl) (fun _ _ _ h => by obtain ⟨_, _, _, h, _⟩ := h; cases h) ⟨_, rfl, .inl ⟨_, rfl, hc33⟩⟩ rfl ?_
          refine GA.skip 10 rfl (by kernel_rfl) (by kernel_rfl) (by kernel_rfl) (fun _ _ _ h => by obtain ⟨_, _, _, h, _⟩ := h; cases h) ⟨_, rfl, .inl ⟨_, rfl, hc33⟩⟩ rfl ?_
          refine GA.skip 11 rfl (by kernel_rfl) (by kernel_rfl) (by kernel_rfl) (fun _ _ _ h => by obtain ⟨_, _, _, h, _⟩ := h; cases h) ⟨_, rfl, .inl ⟨_, rfl, hc33⟩⟩ rfl ?_
          refine GA.skip 12 rfl (by kernel_rfl) (by kernel_rfl) (by kernel_rfl) (fun _ _ _ h => by obtain ⟨_, _, _, h, _⟩ := h; cases h) ⟨_, rfl, .inl ⟨_, rfl, hc33⟩⟩ rfl ?_
          refine GA.skip 13 rfl (by kernel_rfl) (by kernel_rfl) (by kernel_rfl) (fun _ _ _ h => by obtain ⟨_, _, _, h, _⟩ := h; cases h) ⟨_, rfl, .inl ⟨_, rfl, hc33⟩⟩ rfl ?_
          refine GA.skip 14 rfl (by kernel_rfl) (by kernel_rfl) (by kernel_rfl) (fun _ _ _ h => by obtain ⟨_, _, _, h, _⟩ := h; cases h) ⟨_, rfl, .inl ⟨_, rfl, hc33⟩⟩ rfl ?_
          refine GA.skip 15 rfl (by kernel_rfl) (by kernel_rfl) (by kernel_rfl) (fun _ _ _ h => by obtain ⟨_, _, _, h, _⟩ := h; cases h) ⟨_, rfl, .inl ⟨_, rfl, hc33⟩⟩ rfl ?_
          refine GA.skip 16 rfl (by kernel_rfl) (by kernel_rfl) (by kernel_rfl) (fun _ _ _ h => by obtain ⟨_, _, _, h, _⟩ := h; cases h) ⟨_, rfl, .inl ⟨_, rfl, hc33⟩⟩ rfl ?_
          refine GA.take 17 rfl (by kernel_rfl) (by kernel_rfl) (by kernel_rfl) (fun _ _ _ h => by obtain ⟨_, _, _, h, _⟩ := h; cases h) trivial rfl (OV.pickT (b := !r31) (v := .bool true) rfl hc33 rfl) ?_
          refine GA.take 18 rfl (by kernel_rfl) (by kernel_rfl) (by kernel_rfl) (fun _ _ _ h => by obtain ⟨_, _, _, h, _⟩ := h; cases h) trivial rfl (OV.move (v := .bool true) rfl) ?_
          refine GA.skip 19 rfl (by kernel_rfl) (by kernel_rfl) (by kernel_rfl) (fun _ _ _ h => by obtain ⟨_, _, _, h, _⟩ := h; cases h) ⟨_, rfl, .inl ⟨_, rfl, rfl⟩⟩ rfl ?_
          refine GA.skip 20 rfl (by kernel_rfl) (by kernel_rfl) (by kernel_rfl) (fun _ _ _ h => by obtain ⟨_, _, _, h, _⟩ := h; cases h) ⟨_, rfl, .inl ⟨_, rfl, rfl⟩⟩ rfl ?_
          refine GA.skip 21 rfl (by kernel_rfl) (by kernel_rfl) (by kernel_rfl) (fun _ _ _ h => by obtain ⟨_, _, _, h, _⟩ := h; cases h) ⟨_, rfl, .inl ⟨_, rfl, rfl⟩⟩ rfl ?_
          refine GA.skip 22 rfl (by kernel_rfl) (by kernel_rfl) (by kernel_rfl) (fun _ _ _ h => by obtain ⟨_, _, _, h, _⟩ := h; cases h) ⟨_, rfl, .inl ⟨_, rfl, rfl⟩⟩ rfl ?_
          refine GA.skip 23 rfl (by kernel_rfl) (by kernel_rfl) (by kernel_rfl) (fun _ _ _ h => by obtain ⟨_, _, _, h, _⟩ := h; cases h) ⟨_, rfl, .inl ⟨_, rfl, rfl⟩⟩ rfl ?_
          refine GA.skip 24 rfl (by kernel_rfl) (by kernel_rfl) (by kernel_rfl) (fun _ _ _ h => by obtain ⟨_, _, _, h, _⟩ := h; cases h) ⟨_, rfl, .inl ⟨_, rfl, rfl⟩⟩ rfl ?_
          refine GA.skip 25 rfl (by kernel_rfl) (by kernel_rfl) (by kernel_rfl) (fun _ _ _ h => by obtain ⟨_, _, _, h, _⟩ := h; cases h) ⟨_, rfl, .inl ⟨_, rfl, rfl⟩⟩ rfl ?_
          refine GA.skip 26 rfl (by kernel_rfl) (by kernel_rfl) (by kernel_rfl) (fun _ _ _ h => by obtain ⟨_, _, _, h, _⟩ := h; cases h) ⟨_, rfl, .inl ⟨_, rfl, rfl⟩⟩ rfl ?_
          refine GA.take 27 rfl (by kernel_rfl) (by kernel_rfl) (by kernel_rfl) (fun _ _ _ h => by obtain ⟨_, _, _, h, _⟩ := h; cases h) trivial rfl (OV.pickT (b := true) (v := .bool true) rfl rfl rfl) ?_
          refine GA.take 28 rfl (by kernel_rfl) (by kernel_rfl) (by kernel_rfl) (fun _ _ _ h => by obtain ⟨_, _, _, h, _⟩ := h; cases h) trivial rfl (OV.move (v := .bool true) rfl) ?_
          refine GA.skip 29 rfl (by kernel_rfl) (by kernel_rfl) (by kernel_rfl) (fun _ _ _ h => by obtain ⟨_, _, _, h, _⟩ := h; cases h) ⟨_, rfl, .inl ⟨_, rfl, rfl⟩⟩ rfl ?_
          refine GA.skip 30 rfl (by kernel_rfl) (by kernel_rfl) (by kernel_rfl) (fun _ _ _ h => by obtain ⟨_, _, _, h, _⟩ := h; cases h) ⟨_, rfl, .inl ⟨_, rfl, rfl⟩⟩ rfl ?_
          refine GA.skip 31 rfl (by kernel_rfl) (by kernel_rfl) (by kernel_rfl) (fun _ _ _ h => by obtain ⟨_, _, _, h, _⟩ := h; cases h) ⟨_, rfl, .inl ⟨_, rfl, rfl⟩⟩ rfl ?_
          refine GA.skip 32 rfl (by kernel_rfl) (by kernel_rfl) (by kernel_rfl) (fun _ _ _ h => by obtain ⟨_, _, _, h, _⟩ := h; cases h) ⟨_, rfl, .inl ⟨_, rfl, rfl⟩⟩ rfl ?_
          refine GA.skip 33 rfl (by kernel_rfl) (by kernel_rfl) (by kernel_rfl) (fun _ _ _ h => by obtain ⟨_, _, _, h, _⟩ := h; cases h) ⟨_, rfl, .inl ⟨_, rfl, rfl⟩⟩ rfl ?_
          refine GA.skip 34 rfl (by kernel_rfl) (by kernel_rfl) (by kernel_rfl) (fun _ _ _ h => by obtain ⟨_, _, _, h, _⟩ := h; cases h) ⟨_, rfl, .inl ⟨_, rfl, rfl⟩⟩ rfl ?_
          refine GA.skip 35 rfl (by kernel_rfl) (by kernel_rfl) (by kernel_rfl) (fun _ _ _ h => by obtain ⟨_, _, _, h, _⟩ := h; cases h) ⟨_, rfl, .inl ⟨_, rfl, rfl⟩⟩ rfl ?_
          refine GA.skip 36 rfl (by kernel_rfl) (by kernel_rfl) (by kernel_rfl) (fun _ _ _ h => by obtain ⟨_, _, _, h, _⟩ := h; cases h) ⟨_, rfl, .inl ⟨_, rfl, rfl⟩⟩ rfl ?_
          refine GA.take 37 rfl (by kernel_rfl) (by kernel_rfl) (by kernel_rfl) (fun _ _ _ h => by obtain ⟨_, _, _, h, _⟩ := h; cases h) trivial rfl (OV.pickT (b := true) (v := .bool true) rfl rfl rfl) ?_
          refine GA.take 38 rfl (by kernel_rfl) (by kernel_rfl) (by kernel_rfl) (fun _ _ _ h => by obtain ⟨_, _, _, h, _⟩ := h; cases h) trivial rfl (OV.move (v := .bool true) rfl) ?_
          refine GA.skip 39 rfl (by kernel_rfl) (by kernel_rfl) (by kernel_rfl) (fun _ _ _ h => by obtain ⟨_, _, _, h, _⟩ := h; cases h) ⟨_, rfl, .inl ⟨_, rfl, rfl⟩⟩ rfl ?_
          refine GA.skip 40 rfl (by kernel_rfl) (by kernel_rfl) (by kernel_rfl) (fun _ _ _ h => by obtain ⟨_, _, _, h, _⟩ := h; cases h) ⟨_, rfl, .inl ⟨_, rfl, rfl⟩⟩ rfl ?_
          refine GA.skip 41 rfl (by kernel_rfl) (by kernel_rfl) (by kernel_rfl) (fun _ _ _ h => by obtain ⟨_, _, _, h, _⟩ := h; cases h) ⟨_, rfl, .inl ⟨_, rfl, rfl⟩⟩ rfl ?_
          refine GA.skip 42 rfl (by kernel_rfl) (by kernel_rfl) (by kernel_rfl) (fun _ _ _ h => by obtain ⟨_, _, _, h, _⟩ := h; cases h) ⟨_, rfl, .inl ⟨_, rfl, rfl⟩⟩ rfl ?_
          refine GA.skip 43 rfl (by kernel_rfl) (by kernel_rfl) (by kernel_rfl) (fun _ _ _ h => by obtain ⟨_, _, _, h, _⟩ := h; cases h) ⟨_, rfl, .inl ⟨_, rfl, rfl⟩⟩ rfl ?_
          refine GA.skip 44 rfl (by kernel_rfl) (by kernel_rfl) (by kernel_rfl) (fun _ _ _ h => by obtain ⟨_, _, _, h, _⟩ := h; cases h) ⟨_, rfl, .inl ⟨_, rfl, rfl⟩⟩ rfl ?_
          refine GA.skip 45 rfl (by kernel_rfl) (by kernel_rfl) (by kernel_rfl) (fun _ _ _ h => by obtain ⟨_, _, _, h, _⟩ := h; cases h) ⟨_, rfl, .inl ⟨_, rfl, rfl⟩⟩ rfl ?_
          refine GA.skip 46 rfl (by kernel_rfl) (by kernel_rfl) (by kernel_rfl) (fun _ _ _ h => by obtain ⟨_, _, _, h, _⟩ := h; cases h) ⟨_, rfl, .inl ⟨_, rfl, rfl⟩⟩ rfl ?_
          refine GA.take 47 rfl (by kernel_rfl) (by kernel_rfl) (by kernel_rfl) (fun _ _ _ h => by obtain ⟨_, _, _, h, _⟩ := h; cases h) trivial rfl (OV.pickT (b := true) (v := .bool true) rfl rfl rfl) ?_
          refine GA.done (by kernel_rfl) ?_
          exact GL.jump (fun _ _ h => h) true h ⟨rfl, rfl, rfl, rfl, rfl, rfl, rfl, rfl, rfl, trivial⟩
        · replace h := And.right h hc33
          refine GA.take 9 rfl (by kernel_rfl) (by kernel_rfl) (by kernel_rfl) (fun _ _ _ h => by obtain ⟨_, _, _, h, _⟩ := h; cases h) ⟨_, _, rfl, rfl, hc33⟩ rfl (OV.move (v := slv p_b) rfl) ?_
          refine GA.take 10 rfl (by kernel_rfl) (by kernel_rfl) (by kernel_rfl) (fun _ _ _ h => by obtain ⟨_, _, _, h, _⟩ := h; cases h) ⟨_, _, rfl, rfl, hc33⟩ rfl (OV.move (v := .int .i64 p_c) rfl) ?_
          refine GA.take 12 rfl (by kernel_rfl) (by kernel_rfl) (by kernel_rfl) (fun _ _ _ h => by obtain ⟨_, _, _, h, _⟩ := h; cases h) ⟨_, _, rfl, rfl, hc33⟩ rfl (OV.move (v := slv r12) rfl) ?_
          refine GA.take 13 rfl (by kernel_rfl) (by kernel_rfl) (by kernel_rfl) (fun _ _ _ h => by obtain ⟨_, _, _, h, _⟩ := h; cases h) ⟨_, _, rfl, rfl, hc33⟩ rfl (OV.move (v := .int .i64 p_c) rfl) ?_
          refine GA.eff 11 rfl (by kernel_rfl) ?_
          refine GL.call h ⟨_, _, rfl, rfl, hc33⟩ rfl ok_code_Count (vs := [slv p_b, .int .i64 p_c]) rfl ?_
          rintro _ H36 ⟨r35, rfl, h⟩
          obtain ⟨hle34, h⟩ := h
          refine GA.back hle34 ?_
          refine GA.eff 14 rfl (by kernel_rfl) ?_
          refine GL.call h ⟨_, _, rfl, rfl, hc33⟩ rfl ok_ref03_Count (vs := [slv r12, .int .i64 p_c]) rfl ?_
          rintro _ H39 ⟨r38, rfl, h⟩
          obtain ⟨hle37, h⟩ := h
          refine GA.back hle37 ?_
          refine GA.eff 15 rfl (by kernel_rfl) ?_
          refine GL.call h ⟨_, _, rfl, rfl, hc33⟩ rfl ok_law03_put (vs := [slv r35, slv r38]) rfl ?_
          rintro _ H42 ⟨r41, rfl, h⟩
          obtain ⟨hle40, h⟩ := h
          refine GA.back hle40 ?_
          refine GA.take 16 rfl (by kernel_rfl) (by kernel_rfl) (by kernel_rfl) (fun _ _ _ h => by obtain ⟨_, _, _, h, _⟩ := h; cases h) ⟨_, _, rfl, rfl, hc33⟩ rfl (OV.not rfl) ?_
          refine GA.take 17 rfl (by kernel_rfl) (by kernel_rfl) (by kernel_rfl) (fun _ _ _ h => by obtain ⟨_, _, _, h, _⟩ := h; cases h) trivial rfl (OV.pickF (b := !r31) (v := .bool (!r41)) rfl hc33 rfl) ?_
          refine GA.take 18 rfl (by kernel_rfl) (by kernel_rfl) (by kernel_rfl) (fun _ _ _ h => by obtain ⟨_, _, _, h, _⟩ := h; cases h) trivial rfl (OV.move (v := .bool (!r41)) rfl) ?_
          rcases Bool.eq_false_or_eq_true (!r41) with hc43 | hc43
          · replace h := And.left h hc43
            refine GA.skip 19 rfl (by kernel_rfl) (by kernel_rfl) (by kernel_rfl) (fun _ _ _ h => by obtain ⟨_, _, _, h, _⟩ := h; cases h) ⟨_, rfl, .inl ⟨_, rfl, hc43⟩⟩ rfl ?_
            refine GA.skip 20 rfl (by kernel_rfl) (by kernel_rfl) (by kernel_rfl) (fun _ _ _ h => by obtain ⟨_, _, _, h, _⟩ := h; cases h) ⟨_, rfl, .inl ⟨_, rfl, hc43⟩⟩ rfl ?_
            refine GA.skip 21 rfl (by kernel_rfl) (by kernel_rfl) (by kernel_rfl) (fun _ _ _ h => by obtain ⟨_, _, _, h, _⟩ := h; cases h) ⟨_, rfl, .inl ⟨_, rfl, hc43⟩⟩ rfl ?_
            refine GA.skip 22 rfl (by kernel_rfl) (by kernel_rfl) (by kernel_rfl) (fun _ _ _ h => by obtain ⟨_, _, _, h, _⟩ := h; cases h) ⟨_, rfl, .inl ⟨_, rfl, hc43⟩⟩ rfl ?_
            refine GA.skip 23 rfl (by kernel_rfl) (by kernel_rfl) (by kernel_rfl) (fun _ _ _ h => by obtain ⟨_, _, _, h, _⟩ := h; cases h) ⟨_, rfl, .inl ⟨_, rfl, hc43⟩⟩ rfl ?_
            refine GA.skip 24 rfl (by kernel_rfl) (by kernel_rfl) (by kernel_rfl) (fun _ _ _ h => by obtain ⟨_, _, _, h, _⟩ := h; cases h) ⟨_, rfl, .inl ⟨_, rfl, hc43⟩⟩ rfl ?_
            refine GA.skip 25 rfl (by kernel_rfl) (by kernel_rfl) (by kernel_rfl) (fun _ _ _ h => by obtain ⟨_, _, _, h, _⟩ := h; cases h) ⟨_, rfl, .inl ⟨_, rfl, hc43⟩⟩ rfl ?_
            refine GA.skip 26 rfl (by kernel_rfl) (by kernel_rfl) (by kernel_rfl) (fun _ _ _ h => by obtain ⟨_, _, _, h, _⟩ := h; cases h) ⟨_, rfl, .inl ⟨_, rfl, hc43⟩⟩ rfl ?_
            refine GA.take 27 rfl (by kernel_rfl) (by kernel_rfl) (by kernel_rfl) (fun _ _ _ h => by obtain ⟨_, _, _, h, _⟩ := h; cases h) trivial rfl (OV.pickT (b := !r41) (v := .bool true) rfl hc43 rfl) ?_
            refine GA.take 28 rfl (by kernel_rfl) (by kernel_rfl) (by kernel_rfl) (fun _ _ _ h => by obtain ⟨_, _, _, h, _⟩ := h; cases h) trivial rfl (OV.move (v := .bool true) rfl) ?_
            refine GA.skip 29 rfl (by kernel_rfl) (by kernel_rfl) (by kernel_rfl) (fun _ _ _ h => by obtain ⟨_, _, _, h, _⟩ := h; cases h) ⟨_, rfl, .inl ⟨_, rfl, rfl⟩⟩ rfl ?_
            refine GA.skip 30 rfl (by kernel_rfl) (by kernel_rfl) (by kernel_rfl) (fun _ _ _ h => by obtain ⟨_, _, _, h, _⟩ := h; cases h) ⟨_, rfl, .inl ⟨_, rfl, rfl⟩⟩ rfl ?_
            refine GA.skip 31 rfl (by kernel_rfl) (by kernel_rfl) (by kernel_rfl) (fun _ _ _ h => by obtain ⟨_, _, _, h, _⟩ := h; cases h) ⟨_, rfl, .inl ⟨_, rfl, rfl⟩⟩ rfl ?_
            refine GA.skip 32 rfl (by kernel_rfl) (by kernel_rfl) (by kernel_rfl) (fun _ _ _ h => by obtain ⟨_, _, _, h, _⟩ := h; cases h) ⟨_, rfl, .inl ⟨_, rfl, rfl⟩⟩ rfl ?_
            refine GA.skip 33 rfl (by kernel_rfl) (by kernel_rfl) (by kernel_rfl) (fun _ _ _ h => by obtain ⟨_, _, _, h, _⟩ := h; cases h) ⟨_, rfl, .inl ⟨_, rfl, rfl⟩⟩ rfl ?_
            refine GA.skip 34 rfl (by kernel_rfl) (by kernel_rfl) (by kernel_rfl) (fun _ _ _ h => by obtain ⟨_, _, _, h, _⟩ := h; cases h) ⟨_, rfl, .inl ⟨_, rfl, rfl⟩⟩ rfl ?_
            refine GA.skip 35 rfl (by kernel_rfl) (by kernel_rfl) (by kernel_rfl) (fun _ _ _ h => by obtain ⟨_, _, _, h, _⟩ := h; cases h) ⟨_, rfl, .inl ⟨_, rfl, rfl⟩⟩ rfl ?_
            refine GA.skip 36 rfl (by kernel_rfl) (by kernel_rfl) (by kernel_rfl) (fun _ _ _ h => by obtain ⟨_, _, _, h, _⟩ := h; cases h) ⟨_, rfl, .inl ⟨_, rfl, rfl⟩⟩ rfl ?_
            refine GA.take 37 rfl (by kernel_rfl) (by kernel_rfl) (by kernel_rfl) (fun _ _ _ h => by obtain ⟨_, _, _, h, _⟩ := h; cases h) trivial rfl (OV.pickT (b := true) (v := .bool true) rfl rfl rfl) ?_
            refine GA.take 38 rfl (by kernel_rfl) (by kernel_rfl) (by kernel_rfl) (fun _ _ _ h => by obtain ⟨_, _, _, h, _⟩ := h; cases h) trivial rfl (OV.move (v := .bool true) rfl) ?_
            refine GA.skip 39 rfl (by kernel_rfl) (by kernel_rfl) (by kernel_rfl) (fun _ _ _ h => by obtain ⟨_, _, _, h, _⟩ := h; cases h) ⟨_, rfl, .inl ⟨_, rfl, rfl⟩⟩ rfl ?_
            refine GA.skip 40 rfl (by kernel_rfl) (by kernel_rfl) (by kernel_rfl) (fun _ _ _ h => by obtain ⟨_, _, _, h, _⟩ := h; cases h) ⟨_, rfl, .inl ⟨_, rfl, rfl⟩⟩ rfl ?_
            refine GA.skip 41 rfl (by kernel_rfl) (by kernel_rfl) (by kernel_rfl) (fun _ _ _ h => by obtain ⟨_, _, _, h, _⟩ := h; cases h) ⟨_, rfl, .inl ⟨_, rfl, rfl⟩⟩ rfl ?_
            refine GA.skip 42 rfl (by kernel_rfl) (by kernel_rfl) (by kernel_rfl) (fun _ _ _ h => by obtain ⟨_, _, _, h, _⟩ := h; cases h) ⟨_, rfl, .inl ⟨_, rfl, rfl⟩⟩ rfl ?_
            refine GA.skip 43 rfl (by kernel_rfl) (by kernel_rfl) (by kernel_rfl) (fun _ _ _ h => by obtain ⟨_, _, _, h, _⟩ := h; cases h) ⟨_, rfl, .inl ⟨_, rfl, rfl⟩⟩ rfl ?_
            refine GA.skip 44 rfl (by kernel_rfl) (by kernel_rfl) (by kernel_rfl) (fun _ _ _ h => by obtain ⟨_, _, _, h, _⟩ := h; cases h) ⟨_, rfl, .inl ⟨_, rfl, rfl⟩⟩ rfl ?_
            refine GA.skip 45 rfl (by kernel_rfl) (by kernel_rfl) (by kernel_rfl) (fun _ _ _ h => by obtain ⟨_, _, _, h, _⟩ := h; cases h) ⟨_, rfl, .inl ⟨_, rfl, rfl⟩⟩ rfl ?_
            refine GA.skip 46 rfl (by kernel_rfl) (by kernel_rfl) (by kernel_rfl) (fun _ _ _ h => by obtain ⟨_, _, _, h, _⟩ := h; cases h) ⟨_, rfl, .inl ⟨_, rfl, rfl⟩⟩ rfl ?_
            refine GA.take 47 rfl (by kernel_rfl) (by kernel_rfl) (by kernel_rfl) (fun _ _ _ h => by obtain ⟨_, _, _, h, _⟩ := h; cases h) trivial rfl (OV.pickT (b := true) (v := .bool true) rfl rfl rfl) ?_
            refine GA.done (by kernel_rfl) ?_
            exact GL.jump (fun _ _ h => h) true h ⟨rfl, rfl, rfl, rfl, rfl, rfl, rfl, rfl, rfl, trivial⟩
          · replace h := And.right h hc43
            refine GA.take 19 rfl (by kernel_rfl) (by kernel_rfl) (by kernel_rfl) (fun _ _ _ h => by obtain ⟨_, _, _, h, _⟩ := h; cases h) ⟨_, _, rfl, rfl, hc43⟩ rfl (OV.move (v := slv p_b) rfl) ?_
            refine GA.take 20 rfl (by kernel_rfl) (by kernel_rfl) (by kernel_rfl) (fun _ _ _ h => by obtain ⟨_, _, _, h, _⟩ := h; cases h) ⟨_, _, rfl, rfl, hc43⟩ rfl (OV.move (v := sv p_s) rfl) ?_
            refine GA.take 22 rfl (by kernel_rfl) (by kernel_rfl) (by kernel_rfl) (fun _ _ _ h => by obtain ⟨_, _, _, h, _⟩ := h; cases h) ⟨_, _, rfl, rfl, hc43⟩ rfl (OV.move (v := slv r12) rfl) ?_
            refine GA.take 23 rfl (by kernel_rfl) (by kernel_rfl) (by kernel_rfl) (fun _ _ _ h => by obtain ⟨_, _, _, h, _⟩ := h; cases h) ⟨_, _, rfl, rfl, hc43⟩ rfl (OV.move (v := sv p_s) rfl) ?_
            refine GA.eff 21 rfl (by kernel_rfl) ?_
            refine GL.call h ⟨_, _, rfl, rfl, hc43⟩ rfl ok_code_Str (vs := [slv p_b, sv p_s]) rfl ?_
            rintro _ H46 ⟨r45, rfl, h⟩
            obtain ⟨hle44, h⟩ := h
            refine GA.back hle44 ?_
            refine GA.eff 24 rfl (by kernel_rfl) ?_
            refine GL.call h ⟨_, _, rfl, rfl, hc43⟩ rfl ok_ref03_Str (vs := [slv r12, sv p_s]) rfl ?_
            rintro _ H49 ⟨r48, rfl, h⟩
            obtain ⟨hle47, h⟩ := h
            refine GA.back hle47 ?_
            refine GA.eff 25 rfl (by kernel_rfl) ?_
            refine GL.call h ⟨_, _, rfl, rfl, hc43⟩ rfl ok_law03_put (vs := [slv r45, slv r48]) rfl ?_
            rintro _ H52 ⟨r51, rfl, h⟩
            obtain ⟨hle50, h⟩ := h
            refine GA.back hle50 ?_
            refine GA.take 26 rfl (by kernel_rfl) (by kernel_rfl) (by kernel_rfl) (fun _ _ _ h => by obtain ⟨_, _, _, h, _⟩ := h; cases h) ⟨_, _, rfl, rfl, hc43⟩ rfl (OV.not rfl) ?_
            refine GA.take 27 rfl (by kernel_rfl) (by kernel_rfl) (by kernel_rfl) (fun _ _ _ h => by obtain ⟨_, _, _, h, _⟩ := h; cases h) trivial rfl (OV.pickF (b := !r41) (v := .bool (!r51)) rfl hc43 rfl) ?_
            refine GA.take 28 rfl (by kernel_rfl) (by kernel_rfl) (by kernel_rfl) (fun _ _ _ h => by obtain ⟨_, _, _, h, _⟩ := h; cases h) trivial rfl (OV.move (v := .bool (!r51)) rfl) ?_
            rcases Bool.eq_false_or_eq_true (!r51) with hc53 | hc53
            · replace h := And.left h hc53
              refine GA.skip 29 rfl (by kernel_rfl) (by kernel_rfl) (by kernel_rfl) (fun _ _ _ h => by obtain ⟨_, _, _, h, _⟩ := h; cases h) ⟨_, rfl, .inl ⟨_, rfl, hc53⟩⟩ rfl ?_
              refine GA.skip 30 rfl (by kernel_rfl) (by kernel_rfl) (by kernel_rfl) (fun _ _ _ h => by obtain ⟨_, _, _, h, _⟩ := h; cases h) ⟨_, rfl, .inl ⟨_, rfl, hc53⟩⟩ rfl ?_
              refine GA.skip 31 rfl (by kernel_rfl) (by kernel_rfl) (by kernel_rfl) (fun _ _ _ h => by obtain ⟨_, _, _, h, _⟩ := h; cases h) ⟨_, rfl, .inl ⟨_, rfl, hc53⟩⟩ rfl ?_
              refine GA.skip 32 rfl (by kernel_rfl) (by kernel_rfl) (by kernel_rfl) (fun _ _ _ h => by obtain ⟨_, _, _, h, _⟩ := h; cases h) ⟨_, rfl, .inl ⟨_, rfl, hc53⟩⟩ rfl ?_
              refine GA.skip 33 rfl (by kernel_rfl) (by kernel_rfl) (by kernel_rfl) (fun _ _ _ h => by obtain ⟨_, _, _, h, _⟩ := h; cases h) ⟨_, rfl, .inl ⟨_, rfl, hc53⟩⟩ rfl ?_
              refine GA.skip 34 rfl (by kernel_rfl) (by kernel_rfl) (by kernel_rfl) (fun _ _ _ h => by obtain ⟨_, _, _, h, _⟩ := h; cases h) ⟨_, rfl, .inl ⟨_, rfl, hc53⟩⟩ rfl ?_
              refine GA.skip 35 rfl (by kernel_rfl) (by kernel_rfl) (by kernel_rfl) (fun _ _ _ h => by obtain ⟨_, _, _, h, _⟩ := h; cases h) ⟨_, rfl, .inl ⟨_, rfl, hc53⟩⟩ rfl ?_
              refine GA.skip 36 rfl (by kernel_rfl) (by kernel_rfl) (by kernel_rfl) (fun _ _ _ h => by obtain ⟨_, _, _, h, _⟩ := h; cases h) ⟨_, rfl, .inl ⟨_, rfl, hc53⟩⟩ rfl ?_
              refine GA.take 37 rfl (by kernel_rfl) (by kernel_rfl) (by kernel_rfl) (fun _ _ _ h => by obtain ⟨_, _, _, h, _⟩ := h; cases h) trivial rfl (OV.pickT (b := !r51) (v := .bool true) rfl hc53 rfl) ?_
              refine GA.take 38 rfl (by kernel_rfl) (by kernel_rfl) (by kernel_rfl) (fun _ _ _ h => by obtain ⟨_, _, _, h, _⟩ := h; cases h) trivial rfl (OV.move (v := .bool true) rfl) ?_
              refine GA.skip 39 rfl (by kernel_rfl) (by kernel_rfl) (by kernel_rfl) (fun _ _ _ h => by obtain ⟨_, _, _, h, _⟩ := h; cases h) ⟨_, rfl, .inl ⟨_, rfl, rfl⟩⟩ rfl ?_
              refine GA.skip 40 rfl (by kernel_rfl) (by kernel_rfl) (by kernel_rfl) (fun _ _ _ h => by obtain ⟨_, _, _, h, _⟩ := h; cases h) ⟨_, rfl, .inl ⟨_, rfl, rfl⟩⟩ rfl ?_
              refine GA.skip 41 rfl (by kernel_rfl) (by kernel_rfl) (by kernel_rfl) (fun _ _ _ h => by obtain ⟨_, _, _, h, _⟩ := h; cases h) ⟨_, rfl, .inl ⟨_, rfl, rfl⟩⟩ rfl ?_
              refine GA.skip 42 rfl (by kernel_rfl) (by kernel_rfl) (by kernel_rfl) (fun _ _ _ h => by obtain ⟨_, _, _, h, _⟩ := h; cases h) ⟨_, rfl, .inl ⟨_, rfl, rfl⟩⟩ rfl ?_
              refine GA.skip 43 rfl (by kernel_rfl) (by kernel_rfl) (by kernel_rfl) (fun _ _ _ h => by obtain ⟨_, _, _, h, _⟩ := h; cases h) ⟨_, rfl, .inl ⟨_, rfl, rfl⟩⟩ rfl ?_
              refine GA.skip 44 rfl (by kernel_rfl) (by kernel_rfl) (by kernel_rfl) (fun _ _ _ h => by obtain ⟨_, _, _, h, _⟩ := h; cases h) ⟨_, rfl, .inl ⟨_, rfl, rfl⟩⟩ rfl ?_
              refine GA.skip 45 rfl (by kernel_rfl) (by kernel_rfl) (by kernel_rfl) (fun _ _ _ h => by obtain ⟨_, _, _, h, _⟩ := h; cases h) ⟨_, rfl, .inl ⟨_, rfl, rfl⟩⟩ rfl ?_
              refine GA.skip 46 rfl (by kernel_rfl) (by kernel_rfl) (by kernel_rfl) (fun _ _ _ h => by obtain ⟨_, _, _, h, _⟩ := h; cases h) ⟨_, rfl, .inl ⟨_, rfl, rfl⟩⟩ rfl ?_
              refine GA.take 47 rfl (by kernel_rfl) (by kernel_rfl) (by kernel_rfl) (fun _ _ _ h => by obtain ⟨_, _, _, h, _⟩ := h; cases h) trivial rfl (OV.pickT (b := true) (v := .bool true) rfl rfl rfl) ?_
              refine GA.done (by kernel_rfl) ?_
              exact GL.jump (fun _ _ h => h) true h ⟨rfl, rfl, rfl, rfl, rfl, rfl, rfl, rfl, rfl, trivial⟩
            · replace h := And.right h hc53
              refine GA.take 29 rfl (by kernel_rfl) (by kernel_rfl) (by kernel_rfl) (fun _ _ _ h => by obtain ⟨_, _, _, h, _⟩ := h; cases h) ⟨_, _, rfl, rfl, hc53⟩ rfl (OV.move (v := slv p_b) rfl) ?_
              refine GA.take 30 rfl (by kernel_rfl) (by kernel_rfl) (by kernel_rfl) (fun _ _ _ h => by obtain ⟨_, _, _, h, _⟩ := h; cases h) ⟨_, _, rfl, rfl, hc53⟩ rfl (OV.move (v := .bool p_is) rfl) ?_
              refine GA.take 32 rfl (by kernel_rfl) (by kernel_rfl) (by kernel_rfl) (fun _ _ _ h => by obtain ⟨_, _, _, h, _⟩ := h; cases h) ⟨_, _, rfl, rfl, hc53⟩ rfl (OV.move (v := slv r12) rfl) ?_
              refine GA.take 33 rfl (by kernel_rfl) (by kernel_rfl) (by kernel_rfl) (fun _ _ _ h => by obtain ⟨_, _, _, h, _⟩ := h; cases h) ⟨_, _, rfl, rfl, hc53⟩ rfl (OV.move (v := .bool p_is) rfl) ?_
              refine GA.eff 31 rfl (by kernel_rfl) ?_
              refine GL.call h ⟨_, _, rfl, rfl, hc53⟩ rfl ok_code_Flag (vs := [slv p_b, .bool p_is]) rfl ?_
              rintro _ H56 ⟨r55, rfl, h⟩
              obtain ⟨hle54, h⟩ := h
              refine GA.back hle54 ?_
              refine GA.eff 34 rfl (by kernel_rfl) ?_
              refine GL.call h ⟨_, _, rfl, rfl, hc53⟩ rfl ok_ref03_Flag (vs := [slv r12, .bool p_is]) rfl ?_
              rintro _ H59 ⟨r58, rfl, h⟩
              obtain ⟨hle57, h⟩ := h
              refine GA.back hle57 ?_
              refine GA.eff 35 rfl (by kernel_rfl) ?_
              refine GL.call h ⟨_, _, rfl, rfl, hc53⟩ rfl ok_law03_put (vs := [slv r55, slv r58]) rfl ?_
              rintro _ H62 ⟨r61, rfl, h⟩
              obtain ⟨hle60, h⟩ := h
              refine GA.back hle60 ?_
              refine GA.take 36 rfl (by kernel_rfl) (by kernel_rfl) (by kernel_rfl) (fun _ _ _ h => by obtain ⟨_, _, _, h, _⟩ := h; cases h) ⟨_, _, rfl, rfl, hc53⟩ rfl (OV.not rfl) ?_
              refine GA.take 37 rfl (by kernel_rfl) (by kernel_rfl) (by kernel_rfl) (fun _ _ _ h => by obtain ⟨_, _, _, h, _⟩ := h; cases h) trivial rfl (OV.pickF (b := !r51) (v := .bool (!r61)) rfl hc53 rfl) ?_
              refine GA.take 38 rfl (by kernel_rfl) (by kernel_rfl) (by kernel_rfl) (fun _ _ _ h => by obtain ⟨_, _, _, h, _⟩ := h; cases h) trivial rfl (OV.move (v := .bool (!r61)) rfl) ?_
              rcases Bool.eq_false_or_eq_true (!r61) with hc63 | hc63
              · replace h := And.left h hc63
                refine GA.skip 39 rfl (by kernel_rfl) (by kernel_rfl) (by kernel_rfl) (fun _ _ _ h => by obtain ⟨_, _, _, h, _⟩ := h; cases h) ⟨_, rfl, .inl ⟨_, rfl, hc63⟩⟩ rfl ?_
                refine GA.skip 40 rfl (by kernel_rfl) (by kernel_rfl) (by kernel_rfl) (fun _ _ _ h => by obtain ⟨_, _, _, h, _⟩ := h; cases h) ⟨_, rfl, .inl ⟨_, rfl, hc63⟩⟩ rfl ?_
                refine GA.skip 41 rfl (by kernel_rfl) (by kernel_rfl) (by kernel_rfl) (fun _ _ _ h => by obtain ⟨_, _, _, h, _⟩ := h; cases h) ⟨_, rfl, .inl ⟨_, rfl, hc63⟩⟩ rfl ?_
                refine GA.skip 42 rfl (by kernel_rfl) (by kernel_rfl) (by kernel_rfl) (fun _ _ _ h => by obtain ⟨_, _, _, h, _⟩ := h; cases h) ⟨_, rfl, .inl ⟨_, rfl, hc63⟩⟩ rfl ?_
                refine GA.skip 43 rfl (by kernel_rfl) (by kernel_rfl) (by kernel_rfl) (fun _ _ _ h => by obtain ⟨_, _, _, h, _⟩ := h; cases h) ⟨_, rfl, .inl ⟨_, rfl, hc63⟩⟩ rfl ?_
                refine GA.skip 44 rfl (by kernel_rfl) (by kernel_rfl) (by kernel_rfl) (fun _ _ _ h => by obtain ⟨_, _, _, h, _⟩ := h; cases h) ⟨_, rfl, .inl ⟨_, rfl, hc63⟩⟩ rfl ?_
                refine GA.skip 45 rfl (by kernel_rfl) (by kernel_rfl) (by kernel_rfl) (fun _ _ _ h => by obtain ⟨_, _, _, h, _⟩ := h; cases h) ⟨_, rfl, .inl ⟨_, rfl, hc63⟩⟩ rfl ?_
                refine GA.skip 46 rfl (by kernel_rfl) (by kernel_rfl) (by kernel_rfl) (fun _ _ _ h => by obtain ⟨_, _, _, h, _⟩ := h; cases h) ⟨_, rfl, .inl ⟨_, rfl, hc63⟩⟩ rfl ?_
                refine GA.take 47 rfl (by kernel_rfl) (by kernel_rfl) (by kernel_rfl) (fun _ _ _ h => by obtain ⟨_, _, _, h, _⟩ := h; cases h) trivial rfl (OV.pickT (b := !r61) (v := .bool true) rfl hc63 rfl) ?_
                refine GA.done (by kernel_rfl) ?_
                exact GL.jump (fun _ _ h => h) true h ⟨rfl, rfl, rfl, rfl, rfl, rfl, rfl, rfl, rfl, trivial⟩
              · replace h := And.right h hc63
                refine GA.take 39 rfl (by kernel_rfl) (by kernel_rfl) (by kernel_rfl) (fun _ _ _ h => by obtain ⟨_, _, _, h, _⟩ := h; cases h) ⟨_, _, rfl, rfl, hc63⟩ rfl (OV.move (v := slv p_b) rfl) ?_
                obtain ⟨x64, hr65, h⟩ := h
                refine GA.take 40 rfl (by kernel_rfl) (by kernel_rfl) (by kernel_rfl) (fun _ _ _ h => by obtain ⟨_, _, _, h, _⟩ := h; cases h) ⟨_, _, rfl, rfl, hc63⟩ rfl (OV.loadT (p := (b1, 0)) (cs := T_api_Value.c x64) rfl rfl rfl hr65) ?_
                refine GA.take 42 rfl (by kernel_rfl) (by kernel_rfl) (by kernel_rfl) (fun _ _ _ h => by obtain ⟨_, _, _, h, _⟩ := h; cases h) ⟨_, _, rfl, rfl, hc63⟩ rfl (OV.move (v := slv r12) rfl) ?_
                obtain ⟨x66, hr67, h⟩ := h
                refine GA.take 43 rfl (by kernel_rfl) (by kernel_rfl) (by kernel_rfl) (fun _ _ _ h => by obtain ⟨_, _, _, h, _⟩ := h; cases h) ⟨_, _, rfl, rfl, hc63⟩ rfl (OV.loadT (p := (b1, 0)) (cs := T_api_Value.c x66) rfl rfl rfl hr67) ?_
                refine GA.eff 41 rfl (by kernel_rfl) ?_
                refine GL.call h ⟨_, _, rfl, rfl, hc63⟩ rfl ok_code_Value (vs := [slv p_b, .agg (T_api_Value.c x64).toArray]) rfl ?_
                rintro _ H70 ⟨r69, rfl, h⟩
                obtain ⟨hle68, h⟩ := h
                refine GA.back hle68 ?_
                refine GA.eff 44 rfl (by kernel_rfl) ?_
                refine GL.call h ⟨_, _, rfl, rfl, hc63⟩ rfl ok_ref03_Value (vs := [slv r12, .agg (T_api_Value.c x66).toArray]) rfl ?_
                rintro _ H73 ⟨r72, rfl, h⟩
                obtain ⟨hle71, h⟩ := h
                refine GA.back hle71 ?_
                refine GA.eff 45 rfl (by kernel_rfl) ?_
                refine GL.call h ⟨_, _, rfl, rfl, hc63⟩ rfl ok_law03_put (vs := [slv r69, slv r72]) rfl ?_
                rintro _ H76 ⟨r75, rfl, h⟩
                obtain ⟨hle74, h⟩ := h
                refine GA.back hle74 ?_
                refine GA.take 46 rfl (by kernel_rfl) (by kernel_rfl) (by kernel_rfl) (fun _ _ _ h => by obtain ⟨_, _, _, h, _⟩ := h; cases h) ⟨_, _, rfl, rfl, hc63⟩ rfl (OV.not rfl) ?_
                refine GA.take 47 rfl (by kernel_rfl) (by kernel_rfl) (by kernel_rfl) (fun _ _ _ h => by obtain ⟨_, _, _, h, _⟩ := h; cases h) trivial rfl (OV.pickF (b := !r61) (v := .bool (!r75)) rfl hc63 rfl) ?_
                refine GA.done (by kernel_rfl) ?_
                exact GL.jump (fun _ _ h => h) (!r75) h ⟨rfl, rfl, rfl, rfl, rfl, rfl, rfl, rfl, rfl, trivial⟩
      · intro x19 H20 h
        replace h := hR21 x19 H20 h
        refine GL.nil ?_
        refine GC.cond (b := x19) rfl (fun hc77 => ?_) (fun hc77 => ?_)
        · replace h := And.left h hc77
          refine GC.seq ?_
          refine GC.region ?_
          refine GL.val trivial rfl (OV.assign (v := .bool false) rfl) ?_
          refine GL.nil ?_
          exact GC.ret (fun _ _ hf hs => post_tmp1 rfl rfl hf hs ⟨false, rfl, h⟩)
        · replace h := And.right h hc77
          refine GC.skip_to (fun _ _ h => h) ?_
          refine GC.region ?_
          refine GL.val trivial rfl (OV.move (v := .int .i64 x14) rfl) ?_
          refine GL.val trivial rfl (OV.ibin (v := .int .i64 (w .i64 (x14 + 1))) rfl rfl rfl) ?_
          refine GL.val trivial rfl (OV.assign (v := .int .i64 (w .i64 (x14 + 1))) rfl) ?_
          exact GL.jump (fun _ _ h => h) (w .i64 (x14 + 1)) h ⟨rfl, rfl, rfl, rfl, rfl, rfl, rfl, rfl, trivial⟩
    · replace h := And.right h hc17
      refine GC.exit_to (fun _ _ h => h) ?_
      refine GC.seq ?_
      refine GC.region ?_
      refine GL.val trivial rfl (OV.move (v := slv p_b) rfl) ?_
      obtain ⟨t78, h79, h80, h⟩ := h
      refine GL.val trivial rfl (OV.b2s (b := p_b) (s := t78) h79 h80 rfl rfl rfl rfl) ?_
      refine GL.val trivial rfl (OV.move (v := slv r12) rfl) ?_
      obtain ⟨t81, h82, h83, h⟩ := h
      refine GL.val trivial rfl (OV.b2s (b := r12) (s := t81) h82 h83 rfl rfl rfl rfl) ?_
      refine GL.val trivial rfl (OV.sbin (a := t78) (b := t81) (v := .bool (t78 == t81)) rfl rfl rfl) ?_
      refine GL.val trivial rfl (OV.move (v := .bool (t78 == t81)) rfl) ?_
      obtain ⟨J85, h, hR86⟩ := h
      refine GL.cut (α := Bool) 2 J85 (fun b84 => [(80, .bool b84)]) ?_ ?_
      · rcases Bool.eq_false_or_eq_true (t78 == t81) with hc87 | hc87
        · skip
          replace h := And.left h hc87
          refine GL.call h ⟨_, _, rfl, rfl, hc87⟩ rfl ok_law03_works (vs := []) rfl ?_
          rintro _ H89 ⟨r88, rfl, h⟩
          refine GL.val trivial rfl (OV.pickT (b := t78 == t81) (v := .bool r88) rfl hc87 rfl) ?_
          exact GL.jump (fun _ _ h => h) r88 h ⟨rfl, trivial⟩
        · skip
          replace h := And.right h hc87
          refine GL.skip ⟨_, rfl, .inl ⟨_, rfl, hc87⟩⟩ rfl ?_
          refine GL.val trivial rfl (OV.pickF (b := t78 == t81) (v := .bool false) rfl hc87 rfl) ?_
          exact GL.jump (fun _ _ h => h) false h ⟨rfl, trivial⟩
      intro b84 H90 h
      replace h := hR86 b84 H90 h
      refine GL.val trivial rfl (OV.assign (v := .bool b84) rfl) ?_
      refine GL.nil ?_
      exact GC.ret (fun _ _ hf hs => post_tmp1 rfl rfl hf hs ⟨b84, rfl, h⟩)

def sh_law03_CodeOrder (C : Ctx) (p_v : T_api_Value) (p_w : T_api_Value) (p_x : Sl) (p_y : Sl) (K : Bool → Heap → Prop) (H : Heap) : Prop :=
  nw (T_api_Value.c p_v) (fun b1 H2 =>
 nw (T_api_Value.c p_w) (fun b3 H4 =>
 ldT H4 T_api_Value.c (b1, 0) fun x5 =>
 c_law03_wide C x5 (fun r7 H8 =>
 jn (α := Bool) (fun b9 H17 =>
 jn (α := Bool) (fun b20 H26 =>
 ift b20
 (c_law03_works C (fun r28 H29 =>
 K r28 H29) H26)
 (dr H26 fun Hs30 =>
 ldT Hs30 T_api_Value.c (b1, 0) fun x32 =>
 ldT Hs30 T_api_Value.c (b3, 0) fun x34 =>
 c_code_Value C Sl.nil x32 (fun r37 H38 =>
 Heap.le Hs30 H38 ∧
 c_code_Value C Sl.nil x34 (fun r40 H41 =>
 Heap.le Hs30 H41 ∧
 ift ((((Sl.len r37 : Int) : Int) == 0) || (((Sl.len r40 : Int) : Int) == 0))
 (K true H41)
 (ldT H41 T_api_Value.c (b1, 0) fun x44 =>
 ldT H41 T_api_Value.c (b3, 0) fun x46 =>
 c_ref02_Cmp C x44 x46 (fun r48 H49 =>
 c_law03_stands C r37 r40 (fun r50 H51 =>
 jn (α := Bool) (fun b52 H67 =>
 K b52 H67)
 (fun J53 => ift ((r50 : Int) == r48)
 (jn (α := Bool) (fun b56 H66 =>
 J53 b56 H66)
 (fun J57 => ift ((r48 : Int) == 0)
 (J57 true H51)
 (c_law03_behind C r37 p_x (fun r60 H61 =>
 c_law03_behind C r40 p_y (fun r62 H63 =>
 c_law03_stands C r60 r62 (fun r64 H65 =>
 J57 ((r64 : Int) == r48) H65) H63) H61) H51)))
 (J53 false H51))) H49) H41)) H38) H26))
 (fun J21 => ift ((b9 || (decide (((Sl.len p_x : Int) : Int) > 3000))) || (decide (((Sl.len p_y : Int) : Int) > 3000)))
 (J21 true H17)
 (c_law03_works C (fun r24 H25 =>
 J21 (!r24) H25) H17)))
 (fun J10 => ift r7
 (J10 true H8)
 (ldT H8 T_api_Value.c (b3, 0) fun x13 =>
 c_law03_wide C x13 (fun r15 H16 =>
 J10 r15 H16) H8))) H4) H2) H

theorem ad_law03_CodeOrder (C : Ctx) (p_v : T_api_Value) (p_w : T_api_Value) (p_x : Sl) (p_y : Sl) (K : Bool → Heap → Prop) (H : Heap) (h : sh_law03_CodeOrder C p_v p_w p_x p_y K H) : c_law03_CodeOrder C p_v p_w p_x p_y K H := by
  refine Spec.enter Tryd.func4 rfl Tryd.ntmps4 rfl ?_
  refine GC.sub [(0, .agg (T_api_Value.c p_v).toArray), (1, .agg (T_api_Value.c p_w).toArray), (2, slv p_x), (3, slv p_y)] ⟨rfl, rfl, rfl, rfl, trivial⟩ ?_
  refine GC.seq ?_
  refine GC.region ?_
  refine GL.box (v := .agg (T_api_Value.c p_v).toArray) (cs := T_api_Value.c p_v) h trivial rfl rfl rfl ?_
  intro b1 H2 h
  refine GL.box (v := .agg (T_api_Value.c p_w).toArray) (cs := T_api_Value.c p_w) h trivial rfl rfl rfl ?_
  intro b3 H4 h
  refine GL.val trivial rfl (OV.assign (v := .bool false) rfl) ?_
  refine GL.nil ?_
  refine GC.seq ?_
  refine GC.seq ?_
  refine GC.region ?_
  obtain ⟨x5, hr6, h⟩ := h
  refine GL.val trivial rfl (OV.loadT (p := (b1, 0)) (cs := T_api_Value.c x5) rfl rfl rfl hr6) ?_
  refine GL.call h trivial rfl ok_law03_wide (vs := [.agg (T_api_Value.c x5).toArray]) rfl ?_
  rintro _ H8 ⟨r7, rfl, h⟩
  refine GL.val trivial rfl (OV.move (v := .bool r7) rfl) ?_
  obtain ⟨J10, h, hR11⟩ := h
  refine GL.cut (α := Bool) 3 J10 (fun b9 => [(17, .bool b9), (2, slv p_x), (3, slv p_y), (4, pv (some (b1, 0))), (5, pv (some (b3, 0)))]) ?_ ?_
  · rcases Bool.eq_false_or_eq_true r7 with hc12 | hc12
    · skip
      replace h := And.left h hc12
      refine GL.skip ⟨_, rfl, .inl ⟨_, rfl, hc12⟩⟩ rfl ?_
      refine GL.skip ⟨_, rfl, .inl ⟨_, rfl, hc12⟩⟩ rfl ?_
      refine GL.val trivial rfl (OV.pickT (b := r7) (v := .bool true) rfl hc12 rfl) ?_
      exact GL.jump (fun _ _ h => h) true h ⟨rfl, rfl, rfl, rfl, rfl, trivial⟩
    · skip
      replace h := And.right h hc12
      obtain ⟨x13, hr14, h⟩ := h
      refine GL.val ⟨_, _, rfl, rfl, hc12⟩ rfl (OV.loadT (p := (b3, 0)) (cs := T_api_Value.c x13) rfl rfl rfl hr14) ?_
      refine GL.call h ⟨_, _, rfl, rfl, hc12⟩ rfl ok_law03_wide (vs := [.agg (T_api_Value.c x13).toArray]) rfl ?_
      rintro _ H16 ⟨r15, rfl, h⟩
      refine GL.val trivial rfl (OV.pickF (b := r7) (v := .bool r15) rfl hc12 rfl) ?_
      exact GL.jump (fun _ _ h => h) r15 h ⟨rfl, rfl, rfl, rfl, rfl, trivial⟩
  intro b9 H17 h
  replace h := hR11 b9 H17 h
  refine GL.val trivial rfl (OV.move (v := .bool b9) rfl) ?_
  refine GL.cut0 4 [(22, .bool (b9 || (decide (((Sl.len p_x : Int) : Int) > 3000)))), (2, slv p_x), (3, slv p_y), (4, pv (some (b1, 0))), (5, pv (some (b3, 0)))] ?_ ?_
  · rcases Bool.eq_false_or_eq_true b9 with hc18 | hc18
    · skip
      refine GL.skip ⟨_, rfl, .inl ⟨_, rfl, hc18⟩⟩ rfl ?_
      refine GL.skip ⟨_, rfl, .inl ⟨_, rfl, hc18⟩⟩ rfl ?_
      refine GL.skip ⟨_, rfl, .inl ⟨_, rfl, hc18⟩⟩ rfl ?_
      refine GL.val trivial rfl (OV.pickT (b := b9) (v := .bool true) rfl hc18 rfl) ?_
      exact GL.jump0 (fun _ _ h => h) () rfl ⟨(by rw [hc18]; rfl), rfl, rfl, rfl, rfl, trivial⟩
    · skip
      refine GL.val ⟨_, _, rfl, rfl, hc18⟩ rfl (OV.move (v := slv p_x) rfl) ?_
      refine GL.val ⟨_, _, rfl, rfl, hc18⟩ rfl (OV.lenSl (s := p_x) rfl rfl) ?_
      refine GL.val ⟨_, _, rfl, rfl, hc18⟩ rfl (OV.ibin (v := .bool (decide (((Sl.len p_x : Int) : Int) > 3000))) rfl rfl rfl) ?_
      refine GL.val trivial rfl (OV.pickF (b := b9) (v := .bool (decide (((Sl.len p_x : Int) : Int) > 3000))) rfl hc18 rfl) ?_
      exact GL.jump0 (fun _ _ h => h) () rfl ⟨(by rw [hc18]; rfl), rfl, rfl, rfl, rfl, trivial⟩
  refine GL.val trivial rfl (OV.move (v := .bool (b9 || (decide (((Sl.len p_x : Int) : Int) > 3000)))) rfl) ?_
  refine GL.cut0 4 [(27, .bool ((b9 || (decide (((Sl.len p_x : Int) : Int) > 3000))) || (decide (((Sl.len p_y : Int) : Int) > 3000)))), (2, slv p_x), (3, slv p_y), (4, pv (some (b1, 0))), (5, pv (some (b3, 0)))] ?_ ?_
  · rcases Bool.eq_false_or_eq_true (b9 || (decide (((Sl.len p_x : Int) : Int) > 3000))) with hc19 | hc19
    · skip
      refine GL.skip ⟨_, rfl, .inl ⟨_, rfl, hc19⟩⟩ rfl ?_
      refine GL.skip ⟨_, rfl, .inl ⟨_, rfl, hc19⟩⟩ rfl ?_
      refine GL.skip ⟨_, rfl, .inl ⟨_, rfl, hc19⟩⟩ rfl ?_
      refine GL.val trivial rfl (OV.pickT (b := b9 || (decide (((Sl.len p_x : Int) : Int) > 3000))) (v := .bool true) rfl hc19 rfl) ?_
      exact GL.jump0 (fun _ _ h => h) () rfl ⟨(by rw [hc19]; rfl), rfl, rfl, rfl, rfl, trivial⟩
    · skip
      refine GL.val ⟨_, _, rfl, rfl, hc19⟩ rfl (OV.move (v := slv p_y) rfl) ?_
      refine GL.val ⟨_, _, rfl, rfl, hc19⟩ rfl (OV.lenSl (s := p_y) rfl rfl) ?_
      refine GL.val ⟨_, _, rfl, rfl, hc19⟩ rfl (OV.ibin (v := .bool (decide (((Sl.len p_y : Int) : Int) > 3000))) rfl rfl rfl) ?_
      refine GL.val trivial rfl (OV.pickF (b := b9 || (decide (((Sl.len p_x : Int) : Int) > 3000))) (v := .bool (decide (((Sl.len p_y : Int) : Int) > 3000))) rfl hc19 rfl) ?_
      exact GL.jump0 (fun _ _ h => h) () rfl ⟨(by rw [hc19]; rfl), rfl, rfl, rfl, rfl, trivial⟩
  refine GL.val trivial rfl (OV.move (v := .bool ((b9 || (decide (((Sl.len p_x : Int) : Int) > 3000))) || (decide (((Sl.len p_y : Int) : Int) > 3000)))) rfl) ?_
  obtain ⟨J21, h, hR22⟩ := h
  refine GL.cut (α := Bool) 3 J21 (fun b20 => [(31, .bool b20), (2, slv p_x), (3, slv p_y), (4, pv (some (b1, 0))), (5, pv (some (b3, 0)))]) ?_ ?_
  · rcases Bool.eq_false_or_eq_true ((b9 || (decide (((Sl.len p_x : Int) : Int) > 3000))) || (decide (((Sl.len p_y : Int) : Int) > 3000))) with hc23 | hc23
    · skip
      replace h := And.left h hc23
      refine GL.skip ⟨_, rfl, .inl ⟨_, rfl, hc23⟩⟩ rfl ?_
      refine GL.skip ⟨_, rfl, .inl ⟨_, rfl, hc23⟩⟩ rfl ?_
      refine GL.val trivial rfl (OV.pickT (b := (b9 || (decide (((Sl.len p_x : Int) : Int) > 3000))) || (decide (((Sl.len p_y : Int) : Int) > 3000))) (v := .bool true) rfl hc23 rfl) ?_
      exact GL.jump (fun _ _ h => h) true h ⟨rfl, rfl, rfl, rfl, rfl, trivial⟩
    · skip
      replace h := And.right h hc23
      refine GL.call h ⟨_, _, rfl, rfl, hc23⟩ rfl ok_law03_works (vs := []) rfl ?_
      rintro _ H25 ⟨r24, rfl, h⟩
      refine GL.val ⟨_, _, rfl, rfl, hc23⟩ rfl (OV.not rfl) ?_
      refine GL.val trivial rfl (OV.pickF (b := (b9 || (decide (((Sl.len p_x : Int) : Int) > 3000))) || (decide (((Sl.len p_y : Int) : Int) > 3000))) (v := .bool (!r24)) rfl hc23 rfl) ?_
      exact GL.jump (fun _ _ h => h) (!r24) h ⟨rfl, rfl, rfl, rfl, rfl, trivial⟩
  intro b20 H26 h
  replace h := hR22 b20 H26 h
  refine GL.nil ?_
  refine GC.cond (b := b20) rfl (fun hc27 => ?_) (fun hc27 => ?_)
  · replace h := And.left h hc27
    refine GC.seq ?_
    refine GC.region ?_
    refine GL.call h trivial rfl ok_law03_works (vs := []) rfl ?_
    rintro _ H29 ⟨r28, rfl, h⟩
    refine GL.val trivial rfl (OV.assign (v := .bool r28) rfl) ?_
    refine GL.nil ?_
    exact GC.ret (fun _ _ hf hs => post_tmp1 rfl rfl hf hs ⟨r28, rfl, h⟩)
  · replace h := And.right h hc27
    refine GC.skip ?_
    refine GC.seq ?_
    obtain ⟨Hs30, hle31, h⟩ := h
    refine GC.any (Hs := Hs30) (by kernel_rfl) hle31 ?_
    obtain ⟨x32, hr33, h⟩ := h
    refine GA.take 0 rfl (by kernel_rfl) (by kernel_rfl) (by kernel_rfl) (fun _ _ _ h => by obtain ⟨_, _, _, h, _⟩ := h; cases h) trivial rfl (OV.loadT (p := (b1, 0)) (cs := T_api_Value.c x32) rfl rfl rfl hr33) ?_
    obtain ⟨x34, hr35, h⟩ := h
    refine GA.take 2 rfl (by kernel_rfl) (by kernel_rfl) (by kernel_rfl) (fun _ _ _ h => by obtain ⟨_, _, _, h, _⟩ := h; cases h) trivial rfl (OV.loadT (p := (b3, 0)) (cs := T_api_Value.c x34) rfl rfl rfl hr35) ?_
    refine GA.eff 1 rfl (by kernel_rfl) ?_
    refine GL.call h trivial rfl ok_code_Value (vs := [slv Sl.nil, .agg (T_api_Value.c x32).toArray]) rfl ?_
    rintro _ H38 ⟨r37, rfl, h⟩
    obtain ⟨hle36, h⟩ := h
    refine GA.back hle36 ?_
    refine GA.eff 3 rfl (by kernel_rfl) ?_
    refine GL.call h trivial rfl ok_code_Value (vs := [slv Sl.nil, .agg (T_api_Value.c x34).toArray]) rfl ?_
    rintro _ H41 ⟨r40, rfl, h⟩
    obtain ⟨hle39, h⟩ := h
    refine GA.back hle39 ?_
    refine GA.take 4 rfl (by kernel_rfl) (by kernel_rfl) (by kernel_rfl) (fun _ _ _ h => by obtain ⟨_, _, _, h, _⟩ := h; cases h) trivial rfl (OV.assign (v := slv r37) rfl) ?_
    refine GA.take 5 rfl (by kernel_rfl) (by kernel_rfl) (by kernel_rfl) (fun _ _ _ h => by obtain ⟨_, _, _, h, _⟩ := h; cases h) trivial rfl (OV.assign (v := slv r40) rfl) ?_
    refine GA.done (by kernel_rfl) ?_
    refine GL.nil ?_
    refine GC.seq ?_
    refine GC.seq ?_
    refine GC.region ?_
    refine GL.val trivial rfl (OV.move (v := slv r37) rfl) ?_
    refine GL.val trivial rfl (OV.lenSl (s := r37) rfl rfl) ?_
    refine GL.val trivial rfl (OV.ibin (v := .bool (((Sl.len r37 : Int) : Int) == 0)) rfl rfl rfl) ?_
    refine GL.val trivial rfl (OV.move (v := .bool (((Sl.len r37 : Int) : Int) == 0)) rfl) ?_
    refine GL.cut0 4 [(44, .bool ((((Sl.len r37 : Int) : Int) == 0) || (((Sl.len r40 : Int) : Int) == 0))), (2, slv p_x), (3, slv p_y), (4, pv (some (b1, 0))), (5, pv (some (b3, 0))), (9, slv r37), (10, slv r40)] ?_ ?_
    · rcases Bool.eq_false_or_eq_true (((Sl.len r37 : Int) : Int) == 0) with hc42 | hc42
      · skip
        refine GL.skip ⟨_, rfl, .inl ⟨_, rfl, hc42⟩⟩ rfl ?_
        refine GL.skip ⟨_, rfl, .inl ⟨_, rfl, hc42⟩⟩ rfl ?_
        refine GL.skip ⟨_, rfl, .inl ⟨_, rfl, hc42⟩⟩ rfl ?_
        refine GL.val trivial rfl (OV.pickT (b := ((Sl.len r37 : Int) : Int) == 0) (v := .bool true) rfl hc42 rfl) ?_
        exact GL.jump0 (fun _ _ h => h) () rfl ⟨(by rw [hc42]; rfl), rfl, rfl, rfl, rfl, rfl, rfl, trivial⟩
      · skip
        refine GL.val ⟨_, _, rfl, rfl, hc42⟩ rfl (OV.move (v := slv r40) rfl) ?_
        refine GL.val ⟨_, _, rfl, rfl, hc42⟩ rfl (OV.lenSl (s := r40) rfl rfl) ?_
        refine GL.val ⟨_, _, rfl, rfl, hc42⟩ rfl (OV.ibin (v := .bool (((Sl.len r40 : Int) : Int) == 0)) rfl rfl rfl) ?_
        refine GL.val trivial rfl (OV.pickF (b := ((Sl.len r37 : Int) : Int) == 0) (v := .bool (((Sl.len r40 : Int) : Int) == 0)) rfl hc42 rfl) ?_
        exact GL.jump0 (fun _ _ h => h) () rfl ⟨(by rw [hc42]; rfl), rfl, rfl, rfl, rfl, rfl, rfl, trivial⟩
    refine GL.nil ?_
    refine GC.cond (b := (((Sl.len r37 : Int) : Int) == 0) || (((Sl.len r40 : Int) : Int) == 0)) rfl (fun hc43 => ?_) (fun hc43 => ?_)
    · replace h := And.left h hc43
      refine GC.seq ?_
      refine GC.region ?_
      refine GL.val trivial rfl (OV.assign (v := .bool true) rfl) ?_
      refine GL.nil ?_
      exact GC.ret (fun _ _ hf hs => post_tmp1 rfl rfl hf hs ⟨true, rfl, h⟩)
    · replace h := And.right h hc43
      refine GC.skip ?_
      refine GC.seq ?_
      refine GC.region ?_
      obtain ⟨x44, hr45, h⟩ := h
      refine GL.val trivial rfl (OV.loadT (p := (b1, 0)) (cs := T_api_Value.c x44) rfl rfl rfl hr45) ?_
      obtain ⟨x46, hr47, h⟩ := h
      refine GL.val trivial rfl (OV.loadT (p := (b3, 0)) (cs := T_api_Value.c x46) rfl rfl rfl hr47) ?_
      refine GL.call h trivial rfl ok_ref02_Cmp (vs := [.agg (T_api_Value.c x44).toArray, .agg (T_api_Value.c x46).toArray]) rfl ?_
      rintro _ H49 ⟨r48, rfl, h⟩
      refine GL.val trivial rfl (OV.assign (v := .int .i64 r48) rfl) ?_
      refine GL.nil ?_
      refine GC.seq ?_
      refine GC.region ?_
      refine GL.val trivial rfl (OV.move (v := slv r37) rfl) ?_
      refine GL.val trivial rfl (OV.move (v := slv r40) rfl) ?_
      refine GL.call h trivial rfl ok_law03_stands (vs := [slv r37, slv r40]) rfl ?_
      rintro _ H51 ⟨r50, rfl, h⟩
      refine GL.val trivial rfl (OV.move (v := .int .i64 r48) rfl) ?_
      refine GL.val trivial rfl (OV.ibin (v := .bool ((r50 : Int) == r48)) rfl rfl rfl) ?_
      refine GL.val trivial rfl (OV.move (v := .bool ((r50 : Int) == r48)) rfl) ?_
      obtain ⟨J53, h, hR54⟩ := h
      refine GL.cut (α := Bool) 14 J53 (fun b52 => [(67, .bool b52)]) ?_ ?_
      · rcases Bool.eq_false_or_eq_true ((r50 : Int) == r48) with hc55 | hc55
        · skip
          replace h := And.left h hc55
          refine GL.val ⟨_, _, rfl, rfl, hc55⟩ rfl (OV.move (v := .int .i64 r48) rfl) ?_
          refine GL.val ⟨_, _, rfl, rfl, hc55⟩ rfl (OV.ibin (v := .bool ((r48 : Int) == 0)) rfl rfl rfl) ?_
          refine GL.val ⟨_, _, rfl, rfl, hc55⟩ rfl (OV.move (v := .bool ((r48 : Int) == 0)) rfl) ?_
          obtain ⟨J57, h, hR58⟩ := h
          refine GL.cut (α := Bool) 10 J57 (fun b56 => [(66, .bool b56), (53, .bool ((r50 : Int) == r48))]) ?_ ?_
          · rcases Bool.eq_false_or_eq_true ((r48 : Int) == 0) with hc59 | hc59
            · skip
              replace h := And.left h hc59
              refine GL.skip ⟨_, rfl, .inl ⟨_, rfl, hc59⟩⟩ rfl ?_
              refine GL.skip ⟨_, rfl, .inl ⟨_, rfl, hc59⟩⟩ rfl ?_
              refine GL.skip ⟨_, rfl, .inl ⟨_, rfl, hc59⟩⟩ rfl ?_
              refine GL.skip ⟨_, rfl, .inl ⟨_, rfl, hc59⟩⟩ rfl ?_
              refine GL.skip ⟨_, rfl, .inl ⟨_, rfl, hc59⟩⟩ rfl ?_
              refine GL.skip ⟨_, rfl, .inl ⟨_, rfl, hc59⟩⟩ rfl ?_
              refine GL.skip ⟨_, rfl, .inl ⟨_, rfl, hc59⟩⟩ rfl ?_
              refine GL.skip ⟨_, rfl, .inl ⟨_, rfl, hc59⟩⟩ rfl ?_
              refine GL.skip ⟨_, rfl, .inl ⟨_, rfl, hc59⟩⟩ rfl ?_
              refine GL.val ⟨_, _, rfl, rfl, hc55⟩ rfl (OV.pickT (b := (r48 : Int) == 0) (v := .bool true) rfl hc59 rfl) ?_
              exact GL.jump (fun _ _ h => h) true h ⟨rfl, rfl, trivial⟩
            · skip
              replace h := And.right h hc59
              refine GL.val ⟨_, _, rfl, rfl, hc59⟩ rfl (OV.move (v := slv r37) rfl) ?_
              refine GL.val ⟨_, _, rfl, rfl, hc59⟩ rfl (OV.move (v := slv p_x) rfl) ?_
              refine GL.call h ⟨_, _, rfl, rfl, hc59⟩ rfl ok_law03_behind (vs := [slv r37, slv p_x]) rfl ?_
              rintro _ H61 ⟨r60, rfl, h⟩
              refine GL.val ⟨_, _, rfl, rfl, hc59⟩ rfl (OV.move (v := slv r40) rfl) ?_
              refine GL.val ⟨_, _, rfl, rfl, hc59⟩ rfl (OV.move (v := slv p_y) rfl) ?_
              refine GL.call h ⟨_, _, rfl, rfl, hc59⟩ rfl ok_law03_behind (vs := [slv r40, slv p_y]) rfl ?_
              rintro _ H63 ⟨r62, rfl, h⟩
              refine GL.call h ⟨_, _, rfl, rfl, hc59⟩ rfl ok_law03_stands (vs := [slv r60, slv r62]) rfl ?_
              rintro _ H65 ⟨r64, rfl, h⟩
              refine GL.val ⟨_, _, rfl, rfl, hc59⟩ rfl (OV.move (v := .int .i64 r48) rfl) ?_
              refine GL.val ⟨_, _, rfl, rfl, hc59⟩ rfl (OV.ibin (v := .bool ((r64 : Int) == r48)) rfl rfl rfl) ?_
              refine GL.val ⟨_, _, rfl, rfl, hc55⟩ rfl (OV.pickF (b := (r48 : Int) == 0) (v := .bool ((r64 : Int) == r48)) rfl hc59 rfl) ?_
              exact GL.jump (fun _ _ h => h) ((r64 : Int) == r48) h ⟨rfl, rfl, trivial⟩
          intro b56 H66 h
          replace h := hR58 b56 H66 h
          refine GL.val trivial rfl (OV.pickT (b := (r50 : Int) == r48) (v := .bool b56) rfl hc55 rfl) ?_
          exact GL.jump (fun _ _ h => h) b56 h ⟨rfl, trivial⟩
        · skip
          replace h := And.right h hc55
          refine GL.skip ⟨_, rfl, .inl ⟨_, rfl, hc55⟩⟩ rfl ?_
          refine GL.skip ⟨_, rfl, .inl ⟨_, rfl, hc55⟩⟩ rfl ?_
          refine GL.skip ⟨_, rfl, .inl ⟨_, rfl, hc55⟩⟩ rfl ?_
          refine GL.skip ⟨_, rfl, .inr rfl⟩ rfl ?_
          refine GL.skip ⟨_, rfl, .inr rfl⟩ rfl ?_
          refine GL.skip ⟨_, rfl, .inr rfl⟩ rfl ?_
          refine GL.skip ⟨_, rfl, .inr rfl⟩ rfl ?_
          refine GL.skip ⟨_, rfl, .inr rfl⟩ rfl ?_
          refine GL.skip ⟨_, rfl, .inr rfl⟩ rfl ?_
          refine GL.skip ⟨_, rfl, .inr rfl⟩ rfl ?_
          refine GL.skip ⟨_, rfl, .inr rfl⟩ rfl ?_
          refine GL.skip ⟨_, rfl, .inr rfl⟩ rfl ?_
          refine GL.skip ⟨_, rfl, .inl ⟨_, rfl, hc55⟩⟩ rfl ?_
          refine GL.val trivial rfl (OV.pickF (b := (r50 : Int) == r48) (v := .bool false) rfl hc55 rfl) ?_
          exact GL.jump (fun _ _ h => h) false h ⟨rfl, trivial⟩
      intro b52 H67 h
      replace h := hR54 b52 H67 h
      refine GL.val trivial rfl (OV.assign (v := .bool b52) rfl) ?_
      refine GL.nil ?_
      exact GC.ret (fun _ _ hf hs => post_tmp1 rfl rfl hf hs ⟨b52, rfl, h⟩)

def sh_law03_CodeRows (C : Ctx) (p_l : Sl) (p_m : Sl) (K : Bool → Heap → Prop) (H : Heap) : Prop :=
  jn (α := Bool) (fun b2 H8 =>
 ift b2
 (c_law03_works C (fun r10 H11 =>
 K r10 H11) H8)
 (lp (α := Sl × Int) (Sl.nil, 0) H8 (fun x12 J13 H14 =>
 ift (decide ((x12.2 : Int) < (Sl.len p_l : Int)))
 (ixa p_l x12.2 fun p16 =>
 ldT H14 T_api_Value.c (p16.1, p16.2 + (x12.2 : Int).toNat * 4) fun x21 =>
 nw (T_api_Value.c T_api_Value.zero) (fun b23 H24 =>
 stT (b23, 0) (T_api_Value.c x21) (fun H25 =>
 ldT H25 T_api_Value.c (b23, 0) fun x26 =>
 c_law03_wide C x26 (fun r28 H29 =>
 jn (α := Bool) (fun b30 H38 =>
 ift b30
 (K true H38)
 (ldT H38 T_api_Value.c (b23, 0) fun x40 =>
 c_code_Value C x12.1 x40 (fun r42 H43 =>
 J13 (r42, (w .i64 (x12.2 + 1))) H43) H38))
 (fun J31 => ift r28
 (J31 true H29)
 (ldT H29 T_api_Value.c (b23, 0) fun x34 =>
 c_ref02_Check C x34 (fun r36 H37 =>
 J31 ((r36 : Int) != 0) H37) H29))) H25) H24) H14)
 (lp (α := Sl × Int) (Sl.nil, 0) H14 (fun x44 J45 H46 =>
 ift (decide ((x44.2 : Int) < (Sl.len p_m : Int)))
 (ixa p_m x44.2 fun p48 =>
 ldT H46 T_api_Value.c (p48.1, p48.2 + (x44.2 : Int).toNat * 4) fun x53 =>
 nw (T_api_Value.c T_api_Value.zero) (fun b55 H56 =>
 stT (b55, 0) (T_api_Value.c x53) (fun H57 =>
 ldT H57 T_api_Value.c (b55, 0) fun x58 =>
 c_law03_wide C x58 (fun r60 H61 =>
 jn (α := Bool) (fun b62 H70 =>
 ift b62
 (K true H70)
 (ldT H70 T_api_Value.c (b55, 0) fun x72 =>
 c_code_Value C x44.1 x72 (fun r74 H75 =>
 J45 (r74, (w .i64 (x44.2 + 1))) H75) H70))
 (fun J63 => ift r60
 (J63 true H61)
 (ldT H61 T_api_Value.c (b55, 0) fun x66 =>
 c_ref02_Check C x66 (fun r68 H69 =>
 J63 ((r68 : Int) != 0) H69) H61))) H57) H56) H46)
 (c_law03_stands C x12.1 x44.1 (fun r76 H77 =>
 c_ref02_CmpRows C p_l p_m (fun r78 H79 =>
 K ((r76 : Int) == r78) H79) H77) H46))))))
 (fun J3 => ift ((decide (((Sl.len p_l : Int) : Int) > 30)) || (decide (((Sl.len p_m : Int) : Int) > 30)))
 (J3 true H)
 (c_law03_works C (fun r6 H7 =>
 J3 (!r6) H7) H))

theorem ad_law03_CodeRows (C : Ctx) (p_l : Sl) (p_m : Sl) (K : Bool → Heap → Prop) (H : Heap) (h : sh_law03_CodeRows C p_l p_m K H) : c_law03_CodeRows C p_l p_m K H := by
  refine Spec.enter Tryd.func5 rfl Tryd.ntmps5 rfl ?_
  refine GC.sub [(0, slv p_l), (1, slv p_m)] ⟨rfl, rfl, trivial⟩ ?_
  refine GC.seq ?_
  refine GC.region ?_
  refine GL.val trivial rfl (OV.assign (v := .bool false) rfl) ?_
  refine GL.nil ?_
  refine GC.seq ?_
  refine GC.seq ?_
  refine GC.region ?_
  refine GL.val trivial rfl (OV.move (v := slv p_l) rfl) ?_
  refine GL.val trivial rfl (OV.lenSl (s := p_l) rfl rfl) ?_
  refine GL.val trivial rfl (OV.ibin (v := .bool (decide (((Sl.len p_l : Int) : Int) > 30))) rfl rfl rfl) ?_
  refine GL.val trivial rfl (OV.move (v := .bool (decide (((Sl.len p_l : Int) : Int) > 30))) rfl) ?_
  refine GL.cut0 4 [(18, .bool ((decide (((Sl.len p_l : Int) : Int) > 30)) || (decide (((Sl.len p_m : Int) : Int) > 30)))), (0, slv p_l), (1, slv p_m)] ?_ ?_
  · rcases Bool.eq_false_or_eq_true (decide (((Sl.len p_l : Int) : Int) > 30)) with hc1 | hc1
    · skip
      refine GL.skip ⟨_, rfl, .inl ⟨_, rfl, hc1⟩⟩ rfl ?_
      refine GL.skip ⟨_, rfl, .inl ⟨_, rfl, hc1⟩⟩ rfl ?_
      refine GL.skip ⟨_, rfl, .inl ⟨_, rfl, hc1⟩⟩ rfl ?_
      refine GL.val trivial rfl (OV.pickT (b := decide (((Sl.len p_l : Int) : Int) > 30)) (v := .bool true) rfl hc1 rfl) ?_
      exact GL.jump0 (fun _ _ h => h) () rfl ⟨(by rw [hc1]; rfl), rfl, rfl, trivial⟩
    · skip
      refine GL.val ⟨_, _, rfl, rfl, hc1⟩ rfl (OV.move (v := slv p_m) rfl) ?_
      refine GL.val ⟨_, _, rfl, rfl, hc1⟩ rfl (OV.lenSl (s := p_m) rfl rfl) ?_
      refine GL.val ⟨_, _, rfl, rfl, hc1⟩ rfl (OV.ibin (v := .bool (decide (((Sl.len p_m : Int) : Int) > 30))) rfl rfl rfl) ?_
      refine GL.val trivial rfl (OV.pickF (b := decide (((Sl.len p_l : Int) : Int) > 30)) (v := .bool (decide (((Sl.len p_m : Int) : Int) > 30))) rfl hc1 rfl) ?_
      exact GL.jump0 (fun _ _ h => h) () rfl ⟨(by rw [hc1]; rfl), rfl, rfl, trivial⟩
  refine GL.val trivial rfl (OV.move (v := .bool ((decide (((Sl.len p_l : Int) : Int) > 30)) || (decide (((Sl.len p_m : Int) : Int) > 30)))) rfl) ?_
  obtain ⟨J3, h, hR4⟩ := h
  refine GL.cut (α := Bool) 3 J3 (fun b2 => [(22, .bool b2), (0, slv p_l), (1, slv p_m)]) ?_ ?_
  · rcases Bool.eq_false_or_eq_true ((decide (((Sl.len p_l : Int) : Int) > 30)) || (decide (((Sl.len p_m : Int) : Int) > 30))) with hc5 | hc5
    · skip
      replace h := And.left h hc5
      refine GL.skip ⟨_, rfl, .inl ⟨_, rfl, hc5⟩⟩ rfl ?_
      refine GL.skip ⟨_, rfl, .inl ⟨_, rfl, hc5⟩⟩ rfl ?_
      refine GL.val trivial rfl (OV.pickT (b := (decide (((Sl.len p_l : Int) : Int) > 30)) || (decide (((Sl.len p_m : Int) : Int) > 30))) (v := .bool true) rfl hc5 rfl) ?_
      exact GL.jump (fun _ _ h => h) true h ⟨rfl, rfl, rfl, trivial⟩
    · skip
      replace h := And.right h hc5
      refine GL.call h ⟨_, _, rfl, rfl, hc5⟩ rfl ok_law03_works (vs := []) rfl ?_
      rintro _ H7 ⟨r6, rfl, h⟩
      refine GL.val ⟨_, _, rfl, rfl, hc5⟩ rfl (OV.not rfl) ?_
      refine GL.val trivial rfl (OV.pickF (b := (decide (((Sl.len p_l : Int) : Int) > 30)) || (decide (((Sl.len p_m : Int) : Int) > 30))) (v := .bool (!r6)) rfl hc5 rfl) ?_
      exact GL.jump (fun _ _ h => h) (!r6) h ⟨rfl, rfl, rfl, trivial⟩
  intro b2 H8 h
  replace h := hR4 b2 H8 h
  refine GL.nil ?_
  refine GC.cond (b := b2) rfl (fun hc9 => ?_) (fun hc9 => ?_)
  · replace h := And.left h hc9
    refine GC.seq ?_
    refine GC.region ?_
    refine GL.call h trivial rfl ok_law03_works (vs := []) rfl ?_
    rintro _ H11 ⟨r10, rfl, h⟩
    refine GL.val trivial rfl (OV.assign (v := .bool r10) rfl) ?_
    refine GL.nil ?_
    exact GC.ret (fun _ _ hf hs => post_tmp1 rfl rfl hf hs ⟨r10, rfl, h⟩)
  · replace h := And.right h hc9
    refine GC.skip ?_
    refine GC.seq ?_
    refine GC.region ?_
    refine GL.val trivial rfl (OV.assign (v := slv Sl.nil) rfl) ?_
    refine GL.val trivial rfl (OV.assign (v := slv Sl.nil) rfl) ?_
    refine GL.nil ?_
    refine GC.seq ?_
    refine GC.seq ?_
    refine GC.region ?_
    refine GL.val trivial rfl (OV.move (v := slv p_l) rfl) ?_
    refine GL.val trivial rfl (OV.lenSl (s := p_l) rfl rfl) ?_
    refine GL.val trivial rfl (OV.move (v := .int .i64 0) rfl) ?_
    refine GL.nil ?_
    refine GC.block ?_
    refine GC.loop (α := Sl × Int) h (fun x12 => [(5, slv x12.1), (26, .int .i64 x12.2), (0, slv p_l), (1, slv p_m), (6, slv Sl.nil), (24, slv p_l), (25, .int .i64 (Sl.len p_l : Int))]) ⟨rfl, rfl, rfl, rfl, rfl, rfl, rfl, trivial⟩ ?_
    intro x12 H14 J13 h
    refine GC.seq ?_
    refine GC.region ?_
    refine GL.val trivial rfl (OV.ibin (v := .bool (decide ((x12.2 : Int) < (Sl.len p_l : Int)))) rfl rfl rfl) ?_
    refine GL.nil ?_
    refine GC.seq ?_
    refine GC.cond (b := decide ((x12.2 : Int) < (Sl.len p_l : Int))) rfl (fun hc15 => ?_) (fun hc15 => ?_)
    · replace h := And.left h hc15
      refine GC.skip ?_
      refine GC.seq ?_
      refine GC.block ?_
      refine GC.seq ?_
      refine GC.region ?_
      obtain ⟨p16, ha17, hb18, hc19, hd20, h⟩ := h
      refine GL.val trivial rfl (OV.indexAddr (s := p_l) rfl rfl rfl rfl ha17 hb18 hc19 hd20) ?_
      obtain ⟨x21, hr22, h⟩ := h
      refine GL.val trivial rfl (OV.loadT (p := (p16.1, p16.2 + (x12.2 : Int).toNat * 4)) (cs := T_api_Value.c x21) rfl rfl rfl hr22) ?_
      refine GL.alloc (cs := T_api_Value.c T_api_Value.zero) h trivial rfl rfl rfl ?_
      intro b23 H24 h
      refine GL.storeT (p := (b23, 0)) (vs := T_api_Value.c x21) h trivial rfl rfl rfl rfl ?_
      intro H25 h
      refine GL.nil ?_
      refine GC.seq ?_
      refine GC.seq ?_
      refine GC.region ?_
      obtain ⟨x26, hr27, h⟩ := h
      refine GL.val trivial rfl (OV.loadT (p := (b23, 0)) (cs := T_api_Value.c x26) rfl rfl rfl hr27) ?_
      refine GL.call h trivial rfl ok_law03_wide (vs := [.agg (T_api_Value.c x26).toArray]) rfl ?_
      rintro _ H29 ⟨r28, rfl, h⟩
      refine GL.val trivial rfl (OV.move (v := .bool r28) rfl) ?_
      obtain ⟨J31, h, hR32⟩ := h
      refine GL.cut (α := Bool) 4 J31 (fun b30 => [(36, .bool b30), (0, slv p_l), (1, slv p_m), (5, slv x12.1), (6, slv Sl.nil), (8, pv (some (b23, 0))), (24, slv p_l), (25, .int .i64 (Sl.len p_l : Int)), (26, .int .i64 x12.2)]) ?_ ?_
      · rcases Bool.eq_false_or_eq_true r28 with hc33 | hc33
        · skip
          replace h := And.left h hc33
          refine GL.skip ⟨_, rfl, .inl ⟨_, rfl, hc33⟩⟩ rfl ?_
          refine GL.skip ⟨_, rfl, .inl ⟨_, rfl, hc33⟩⟩ rfl ?_
          refine GL.skip ⟨_, rfl, .inl ⟨_, rfl, hc33⟩⟩ rfl ?_
          refine GL.val trivial rfl (OV.pickT (b := r28) (v := .bool true) rfl hc33 rfl) ?_
          exact GL.jump (fun _ _ h => h) true h ⟨rfl, rfl, rfl, rfl, rfl, rfl, rfl, rfl, rfl, trivial⟩
        · skip
          replace h := And.right h hc33
          obtain ⟨x34, hr35, h⟩ := h
          refine GL.val ⟨_, _, rfl, rfl, hc33⟩ rfl (OV.loadT (p := (b23, 0)) (cs := T_api_Value.c x34) rfl rfl rfl hr35) ?_
          refine GL.call h ⟨_, _, rfl, rfl, hc33⟩ rfl ok_ref02_Check (vs := [.agg (T_api_Value.c x34).toArray]) rfl ?_
          rintro _ H37 ⟨r36, rfl, h⟩
          refine GL.val ⟨_, _, rfl, rfl, hc33⟩ rfl (OV.ibin (v := .bool ((r36 : Int) != 0)) rfl rfl rfl) ?_
          refine GL.val trivial rfl (OV.pickF (b := r28) (v := .bool ((r36 : Int) != 0)) rfl hc33 rfl) ?_
          exact GL.jump (fun _ _ h => h) ((r36 : Int) != 0) h ⟨rfl, rfl, rfl, rfl, rfl, rfl, rfl, rfl, rfl, trivial⟩
      intro b30 H38 h
      replace h := hR32 b30 H38 h
      refine GL.nil ?_
      refine GC.cond (b := b30) rfl (fun hc39 => ?_) (fun hc39 => ?_)
      · replace h := And.left h hc39
        refine GC.seq ?_
        refine GC.region ?_
        refine GL.val trivial rfl (OV.assign (v := .bool true) rfl) ?_
        refine GL.nil ?_
        exact GC.ret (fun _ _ hf hs => post_tmp1 rfl rfl hf hs ⟨true, rfl, h⟩)
      · replace h := And.right h hc39
        refine GC.skip ?_
        refine GC.region ?_
        refine GL.val trivial rfl (OV.move (v := slv x12.1) rfl) ?_
        obtain ⟨x40, hr41, h⟩ := h
        refine GL.val trivial rfl (OV.loadT (p := (b23, 0)) (cs := T_api_Value.c x40) rfl rfl rfl hr41) ?_
        refine GL.call h trivial rfl ok_code_Value (vs := [slv x12.1, .agg (T_api_Value.c x40).toArray]) rfl ?_
        rintro _ H43 ⟨r42, rfl, h⟩
        refine GL.val trivial rfl (OV.assign (v := slv r42) rfl) ?_
        refine GL.nil_to (fun _ _ h => h) ?_
        refine GC.region ?_
        refine GL.val trivial rfl (OV.ibin (v := .int .i64 (w .i64 (x12.2 + 1))) rfl rfl rfl) ?_
        refine GL.val trivial rfl (OV.move (v := .int .i64 (w .i64 (x12.2 + 1))) rfl) ?_
        exact GL.jump (fun _ _ h => h) (r42, (w .i64 (x12.2 + 1))) h ⟨rfl, rfl, rfl, rfl, rfl, rfl, rfl, trivial⟩
    · replace h := And.right h hc15
      refine GC.exit_to (fun _ _ h => h) ?_
      refine GC.seq ?_
      refine GC.seq ?_
      refine GC.region ?_
      refine GL.val trivial rfl (OV.move (v := slv p_m) rfl) ?_
      refine GL.val trivial rfl (OV.lenSl (s := p_m) rfl rfl) ?_
      refine GL.val trivial rfl (OV.move (v := .int .i64 0) rfl) ?_
      refine GL.nil ?_
      refine GC.block ?_
      refine GC.loop (α := Sl × Int) h (fun x44 => [(6, slv x44.1), (43, .int .i64 x44.2), (0, slv p_l), (1, slv p_m), (5, slv x12.1), (41, slv p_m), (42, .int .i64 (Sl.len p_m : Int))]) ⟨rfl, rfl, rfl, rfl, rfl, rfl, rfl, trivial⟩ ?_
      intro x44 H46 J45 h
      refine GC.seq ?_
      refine GC.region ?_
      refine GL.val trivial rfl (OV.ibin (v := .bool (decide ((x44.2 : Int) < (Sl.len p_m : Int)))) rfl rfl rfl) ?_
      refine GL.nil ?_
      refine GC.seq ?_
      refine GC.cond (b := decide ((x44.2 : Int) < (Sl.len p_m : Int))) rfl (fun hc47 => ?_) (fun hc47 => ?_)
      · replace h := And.left h hc47
        refine GC.skip ?_
        refine GC.seq ?_
        refine GC.block ?_
        refine GC.seq ?_
        refine GC.region ?_
        obtain ⟨p48, ha49, hb50, hc51, hd52, h⟩ := h
        refine GL.val trivial rfl (OV.indexAddr (s := p_m) rfl rfl rfl rfl ha49 hb50 hc51 hd52) ?_
        obtain ⟨x53, hr54, h⟩ := h
        refine GL.val trivial rfl (OV.loadT (p := (p48.1, p48.2 + (x44.2 : Int).toNat * 4)) (cs := T_api_Value.c x53) rfl rfl rfl hr54) ?_
        refine GL.alloc (cs := T_api_Value.c T_api_Value.zero) h trivial rfl rfl rfl ?_
        intro b55 H56 h
        refine GL.storeT (p := (b55, 0)) (vs := T_api_Value.c x53) h trivial rfl rfl rfl rfl ?_
        intro H57 h
        refine GL.nil ?_
        refine GC.seq ?_
        refine GC.seq ?_
        refine GC.region ?_
        obtain ⟨x58, hr59, h⟩ := h
        refine GL.val trivial rfl (OV.loadT (p := (b55, 0)) (cs := T_api_Value.c x58) rfl rfl rfl hr59) ?_
        refine GL.call h trivial rfl ok_law03_wide (vs := [.agg (T_api_Value.c x58).toArray]) rfl ?_
        rintro _ H61 ⟨r60, rfl, h⟩
        refine GL.val trivial rfl (OV.move (v := .bool r60) rfl) ?_
        obtain ⟨J63, h, hR64⟩ := h
        refine GL.cut (α := Bool) 4 J63 (fun b62 => [(53, .bool b62), (0, slv p_l), (1, slv p_m), (5, slv x12.1), (6, slv x44.1), (10, pv (some (b55, 0))), (41, slv p_m), (42, .int .i64 (Sl.len p_m : Int)), (43, .int .i64 x44.2)]) ?_ ?_
        · rcases Bool.eq_false_or_eq_true r60 with hc65 | hc65
          · skip
            replace h := And.left h hc65
            refine GL.skip ⟨_, rfl, .inl ⟨_, rfl, hc65⟩⟩ rfl ?_
            refine GL.skip ⟨_, rfl, .inl ⟨_, rfl, hc65⟩⟩ rfl ?_
            refine GL.skip ⟨_, rfl, .inl ⟨_, rfl, hc65⟩⟩ rfl ?_
            refine GL.val trivial rfl (OV.pickT (b := r60) (v := .bool true) rfl hc65 rfl) ?_
            exact GL.jump (fun _ _ h => h) true h ⟨rfl, rfl, rfl, rfl, rfl, rfl, rfl, rfl, rfl, trivial⟩
          · skip
            replace h := And.right h hc65
            obtain ⟨x66, hr67, h⟩ := h
            refine GL.val ⟨_, _, rfl, rfl, hc65⟩ rfl (OV.loadT (p := (b55, 0)) (cs := T_api_Value.c x66) rfl rfl rfl hr67) ?_
            refine GL.call h ⟨_, _, rfl, rfl, hc65⟩ rfl ok_ref02_Check (vs := [.agg (T_api_Value.c x66).toArray]) rfl ?_
            rintro _ H69 ⟨r68, rfl, h⟩
            refine GL.val ⟨_, _, rfl, rfl, hc65⟩ rfl (OV.ibin (v := .bool ((r68 : Int) != 0)) rfl rfl rfl) ?_
            refine GL.val trivial rfl (OV.pickF (b := r60) (v := .bool ((r68 : Int) != 0)) rfl hc65 rfl) ?_
            exact GL.jump (fun _ _ h => h) ((r68 : Int) != 0) h ⟨rfl, rfl, rfl, rfl, rfl, rfl, rfl, rfl, rfl, trivial⟩
        intro b62 H70 h
        replace h := hR64 b62 H70 h
        refine GL.nil ?_
        refine GC.cond (b := b62) rfl (fun hc71 => ?_) (fun hc71 => ?_)
        · replace h := And.left h hc71
          refine GC.seq ?_
          refine GC.region ?_
          refine GL.val trivial rfl (OV.assign (v := .bool true) rfl) ?_
          refine GL.nil ?_
          exact GC.ret (fun _ _ hf hs => post_tmp1 rfl rfl hf hs ⟨true, rfl, h⟩)
        · replace h := And.right h hc71
          refine GC.skip ?_
          refine GC.region ?_
          refine GL.val trivial rfl (OV.move (v := slv x44.1) rfl) ?_
          obtain ⟨x72, hr73, h⟩ := h
          refine GL.val trivial rfl (OV.loadT (p := (b55, 0)) (cs := T_api_Value.c x72) rfl rfl rfl hr73) ?_
          refine GL.call h trivial rfl ok_code_Value (vs := [slv x44.1, .agg (T_api_Value.c x72).toArray]) rfl ?_
          rintro _ H75 ⟨r74, rfl, h⟩
          refine GL.val trivial rfl (OV.assign (v := slv r74) rfl) ?_
          refine GL.nil_to (fun _ _ h => h) ?_
          refine GC.region ?_
          refine GL.val trivial rfl (OV.ibin (v := .int .i64 (w .i64 (x44.2 + 1))) rfl rfl rfl) ?_
          refine GL.val trivial rfl (OV.move (v := .int .i64 (w .i64 (x44.2 + 1))) rfl) ?_
          exact GL.jump (fun _ _ h => h) (r74, (w .i64 (x44.2 + 1))) h ⟨rfl, rfl, rfl, rfl, rfl, rfl, rfl, trivial⟩
      · replace h := And.right h hc47
        refine GC.exit_to (fun _ _ h => h) ?_
        refine GC.seq ?_
        refine GC.region ?_
        refine GL.val trivial rfl (OV.move (v := slv x12.1) rfl) ?_
        refine GL.val trivial rfl (OV.move (v := slv x44.1) rfl) ?_
        refine GL.call h trivial rfl ok_law03_stands (vs := [slv x12.1, slv x44.1]) rfl ?_
        rintro _ H77 ⟨r76, rfl, h⟩
        refine GL.val trivial rfl (OV.move (v := slv p_l) rfl) ?_
        refine GL.val trivial rfl (OV.move (v := slv p_m) rfl) ?_
        refine GL.call h trivial rfl ok_ref02_CmpRows (vs := [slv p_l, slv p_m]) rfl ?_
        rintro _ H79 ⟨r78, rfl, h⟩
        refine GL.val trivial rfl (OV.ibin (v := .bool ((r76 : Int) == r78)) rfl rfl rfl) ?_
        refine GL.val trivial rfl (OV.assign (v := .bool ((r76 : Int) == r78)) rfl) ?_
        refine GL.nil ?_
        exact GC.ret (fun _ _ hf hs => post_tmp1 rfl rfl hf hs ⟨((r76 : Int) == r78), rfl, h⟩)

def sh_law03_CodeBehind (C : Ctx) (p_b : Sl) (p_l : Sl) (p_tail : Sl) (K : Bool → Heap → Prop) (H : Heap) : Prop :=
  jn (α := Bool) (fun b3 H9 =>
 ift b3
 (c_law03_works C (fun r11 H12 =>
 K r11 H12) H9)
 (c_code_NewReader C p_b (fun r13 H14 =>
 c_law03_behind C p_b p_tail (fun r15 H16 =>
 c_code_NewReader C r15 (fun r17 H18 =>
 lp (α := Int) 0 H18 (fun x19 J20 H21 =>
 ift (decide ((x19 : Int) < (Sl.len p_l : Int)))
 (False)
 (K true H21))) H16) H14) H9))
 (fun J4 => ift (((decide (((Sl.len p_b : Int) : Int) > 3000)) || (decide (((Sl.len p_l : Int) : Int) > 60))) || (decide (((Sl.len p_tail : Int) : Int) > 3000)))
 (J4 true H)
 (c_law03_works C (fun r7 H8 =>
 J4 (!r7) H8) H))

theorem ad_law03_CodeBehind (C : Ctx) (p_b : Sl) (p_l : Sl) (p_tail : Sl) (K : Bool → Heap → Prop) (H : Heap) (h : sh_law03_CodeBehind C p_b p_l p_tail K H) : c_law03_CodeBehind C p_b p_l p_tail K H := by
  refine Spec.enter Tryd.func6 rfl Tryd.ntmps6 rfl ?_
  refine GC.sub [(0, slv p_b), (1, slv p_l), (2, slv p_tail)] ⟨rfl, rfl, rfl, trivial⟩ ?_
  refine GC.seq ?_
  refine GC.region ?_
  refine GL.val trivial rfl (OV.assign (v := .bool false) rfl) ?_
  refine GL.nil ?_
  refine GC.seq ?_
  refine GC.seq ?_
  refine GC.region ?_
  refine GL.val trivial rfl (OV.move (v := slv p_b) rfl) ?_
  refine GL.val trivial rfl (OV.lenSl (s := p_b) rfl rfl) ?_
  refine GL.val trivial rfl (OV.ibin (v := .bool (decide (((Sl.len p_b : Int) : Int) > 3000))) rfl rfl rfl) ?_
  refine GL.val trivial rfl (OV.move (v := .bool (decide (((Sl.len p_b : Int) : Int) > 3000))) rfl) ?_
  refine GL.cut0 4 [(19, .bool ((decide (((Sl.len p_b : Int) : Int) > 3000)) || (decide (((Sl.len p_l : Int) : Int) > 60)))), (0, slv p_b), (1, slv p_l), (2, slv p_tail)] ?_ ?_
  · rcases Bool.eq_false_or_eq_true (decide (((Sl.len p_b : Int) : Int) > 3000)) with hc1 | hc1
    · skip
      refine GL.skip ⟨_, rfl, .inl ⟨_, rfl, hc1⟩⟩ rfl ?_
      refine GL.skip ⟨_, rfl, .inl ⟨_, rfl, hc1⟩⟩ rfl ?_
      refine GL.skip ⟨_, rfl, .inl ⟨_, rfl, hc1⟩⟩ rfl ?_
      refine GL.val trivial rfl (OV.pickT (b := decide (((Sl.len p_b : Int) : Int) > 3000)) (v := .bool true) rfl hc1 rfl) ?_
      exact GL.jump0 (fun _ _ h => h) () rfl ⟨(by rw [hc1]; rfl), rfl, rfl, rfl, trivial⟩
    · skip
      refine GL.val ⟨_, _, rfl, rfl, hc1⟩ rfl (OV.move (v := slv p_l) rfl) ?_
      refine GL.val ⟨_, _, rfl, rfl, hc1⟩ rfl (OV.lenSl (s := p_l) rfl rfl) ?_
      refine GL.val ⟨_, _, rfl, rfl, hc1⟩ rfl (OV.ibin (v := .bool (decide (((Sl.len p_l : Int) : Int) > 60))) rfl rfl rfl) ?_
      refine GL.val trivial rfl (OV.pickF (b := decide (((Sl.len p_b : Int) : Int) > 3000)) (v := .bool (decide (((Sl.len p_l : Int) : Int) > 60))) rfl hc1 rfl) ?_
      exact GL.jump0 (fun _ _ h => h) () rfl ⟨(by rw [hc1]; rfl), rfl, rfl, rfl, trivial⟩
  refine GL.val trivial rfl (OV.move (v := .bool ((decide (((Sl.len p_b : Int) : Int) > 3000)) || (decide (((Sl.len p_l : Int) : Int) > 60)))) rfl) ?_
  refine GL.cut0 4 [(24, .bool (((decide (((Sl.len p_b : Int) : Int) > 3000)) || (decide (((Sl.len p_l : Int) : Int) > 60))) || (decide (((Sl.len p_tail : Int) : Int) > 3000)))), (0, slv p_b), (1, slv p_l), (2, slv p_tail)] ?_ ?_
  · rcases Bool.eq_false_or_eq_true ((decide (((Sl.len p_b : Int) : Int) > 3000)) || (decide (((Sl.len p_l : Int) : Int) > 60))) with hc2 | hc2
    · skip
      refine GL.skip ⟨_, rfl, .inl ⟨_, rfl, hc2⟩⟩ rfl ?_
      refine GL.skip ⟨_, rfl, .inl ⟨_, rfl, hc2⟩⟩ rfl ?_
      refine GL.skip ⟨_, rfl, .inl ⟨_, rfl, hc2⟩⟩ rfl ?_
      refine GL.val trivial rfl (OV.pickT (b := (decide (((Sl.len p_b : Int) : Int) > 3000)) || (decide (((Sl.len p_l : Int) : Int) > 60))) (v := .bool true) rfl hc2 rfl) ?_
      exact GL.jump0 (fun _ _ h => h) () rfl ⟨(by rw [hc2]; rfl), rfl, rfl, rfl, trivial⟩
    · skip
      refine GL.val ⟨_, _, rfl, rfl, hc2⟩ rfl (OV.move (v := slv p_tail) rfl) ?_
      refine GL.val ⟨_, _, rfl, rfl, hc2⟩ rfl (OV.lenSl (s := p_tail) rfl rfl) ?_
      refine GL.val ⟨_, _, rfl, rfl, hc2⟩ rfl (OV.ibin (v := .bool (decide (((Sl.len p_tail : Int) : Int) > 3000))) rfl rfl rfl) ?_
      refine GL.val trivial rfl (OV.pickF (b := (decide (((Sl.len p_b : Int) : Int) > 3000)) || (decide (((Sl.len p_l : Int) : Int) > 60))) (v := .bool (decide (((Sl.len p_tail : Int) : Int) > 3000))) rfl hc2 rfl) ?_
      exact GL.jump0 (fun _ _ h => h) () rfl ⟨(by rw [hc2]; rfl), rfl, rfl, rfl, trivial⟩
  refine GL.val trivial rfl (OV.move (v := .bool (((decide (((Sl.len p_b : Int) : Int) > 3000)) || (decide (((Sl.len p_l : Int) : Int) > 60))) || (decide (((Sl.len p_tail : Int) : Int) > 3000)))) rfl) ?_
  obtain ⟨J4, h, hR5⟩ := h
  refine GL.cut (α := Bool) 3 J4 (fun b3 => [(28, .bool b3), (0, slv p_b), (1, slv p_l), (2, slv p_tail)]) ?_ ?_
  · rcases Bool.eq_false_or_eq_true (((decide (((Sl.len p_b : Int) : Int) > 3000)) || (decide (((Sl.len p_l : Int) : Int) > 60))) || (decide (((Sl.len p_tail : Int) : Int) > 3000))) with hc6 | hc6
    · skip
      replace h := And.left h hc6
      refine GL.skip ⟨_, rfl, .inl ⟨_, rfl, hc6⟩⟩ rfl ?_
      refine GL.skip ⟨_, rfl, .inl ⟨_, rfl, hc6⟩⟩ rfl ?_
      refine GL.val trivial rfl (OV.pickT (b := ((decide (((Sl.len p_b : Int) : Int) > 3000)) || (decide (((Sl.len p_l : Int) : Int) > 60))) || (decide (((Sl.len p_tail : Int) : Int) > 3000))) (v := .bool true) rfl hc6 rfl) ?_
      exact GL.jump (fun _ _ h => h) true h ⟨rfl, rfl, rfl, rfl, trivial⟩
    · skip
      replace h := And.right h hc6
      refine GL.call h ⟨_, _, rfl, rfl, hc6⟩ rfl ok_law03_works (vs := []) rfl ?_
      rintro _ H8 ⟨r7, rfl, h⟩
      refine GL.val ⟨_, _, rfl, rfl, hc6⟩ rfl (OV.not rfl) ?_
      refine GL.val trivial rfl (OV.pickF (b := ((decide (((Sl.len p_b : Int) : Int) > 3000)) || (decide (((Sl.len p_l : Int) : Int) > 60))) || (decide (((Sl.len p_tail : Int) : Int) > 3000))) (v := .bool (!r7)) rfl hc6 rfl) ?_
      exact GL.jump (fun _ _ h => h) (!r7) h ⟨rfl, rfl, rfl, rfl, trivial⟩
  intro b3 H9 h
  replace h := hR5 b3 H9 h
  refine GL.nil ?_
  refine GC.cond (b := b3) rfl (fun hc10 => ?_) (fun hc10 => ?_)
  · replace h := And.left h hc10
    refine GC.seq ?_
    refine GC.region ?_
    refine GL.call h trivial rfl ok_law03_works (vs := []) rfl ?_
    rintro _ H12 ⟨r11, rfl, h⟩
    refine GL.val trivial rfl (OV.assign (v := .bool r11) rfl) ?_
    refine GL.nil ?_
    exact GC.ret (fun _ _ hf hs => post_tmp1 rfl rfl hf hs ⟨r11, rfl, h⟩)
  · replace h := And.right h hc10
    refine GC.skip ?_
    refine GC.seq ?_
    refine GC.region ?_
    refine GL.val trivial rfl (OV.move (v := slv p_b) rfl) ?_
    refine GL.call h trivial rfl ok_code_NewReader (vs := [slv p_b]) rfl ?_
    rintro _ H14 ⟨r13, rfl, h⟩
    refine GL.val trivial rfl (OV.move (v := slv p_b) rfl) ?_
    refine GL.val trivial rfl (OV.move (v := slv p_tail) rfl) ?_
    refine GL.call h trivial rfl ok_law03_behind (vs := [slv p_b, slv p_tail]) rfl ?_
    rintro _ H16 ⟨r15, rfl, h⟩
    refine GL.call h trivial rfl ok_code_NewReader (vs := [slv r15]) rfl ?_
    rintro _ H18 ⟨r17, rfl, h⟩
    refine GL.val trivial rfl (OV.assign (v := pv r13) rfl) ?_
    refine GL.val trivial rfl (OV.assign (v := pv r17) rfl) ?_
    refine GL.nil ?_
    refine GC.seq ?_
    refine GC.seq ?_
    refine GC.region ?_
    refine GL.val trivial rfl (OV.assign (v := .int .i64 0) rfl) ?_
    refine GL.nil ?_
    refine GC.block ?_
    refine GC.loop (α := Int) h (fun x19 => [(9, .int .i64 x19), (1, slv p_l), (2, slv p_tail), (7, pv r13), (8, pv r17)]) ⟨rfl, rfl, rfl, rfl, rfl, trivial⟩ ?_
    intro x19 H21 J20 h
    refine GC.seq ?_
    refine GC.seq ?_
    refine GC.region ?_
    refine GL.val trivial rfl (OV.move (v := .int .i64 x19) rfl) ?_
    refine GL.val trivial rfl (OV.move (v := slv p_l) rfl) ?_
    refine GL.val trivial rfl (OV.lenSl (s := p_l) rfl rfl) ?_
    refine GL.val trivial rfl (OV.ibin (v := .bool (decide ((x19 : Int) < (Sl.len p_l : Int)))) rfl rfl rfl) ?_
    refine GL.nil ?_
    refine GC.cond (b := decide ((x19 : Int) < (Sl.len p_l : Int))) rfl (fun hc22 => ?_) (fun hc22 => ?_)
    · replace h := And.left h hc22
      refine GC.skip ?_
      refine GC.seq ?_
      refine GC.block ?_
      refine GC.seq ?_
      exact GC.never h
    · replace h := And.right h hc22
      refine GC.exit_to (fun _ _ h => h) ?_
      refine GC.seq ?_
      refine GC.region ?_
      refine GL.val trivial rfl (OV.assign (v := .bool true) rfl) ?_
      refine GL.nil ?_
      exact GC.ret (fun _ _ hf hs => post_tmp1 rfl rfl hf hs ⟨true, rfl, h⟩)

def sh_law03_CodeApart (C : Ctx) (p_v : T_api_Value) (p_w : T_api_Value) (p_k : Int) (p_tail : Sl) (K : Bool → Heap → Prop) (H : Heap) : Prop :=
  nw (T_api_Value.c p_v) (fun b1 H2 =>
 nw (T_api_Value.c p_w) (fun b3 H4 =>
 ldT H4 T_api_Value.c (b1, 0) fun x5 =>
 c_law03_wide C x5 (fun r7 H8 =>
 jn (α := Bool) (fun b9 H17 =>
 jn (α := Bool) (fun b19 H25 =>
 ift b19
 (c_law03_works C (fun r27 H28 =>
 K r27 H28) H25)
 (dr H25 fun Hs29 =>
 ldT Hs29 T_api_Value.c (b1, 0) fun x31 =>
 ldT Hs29 T_api_Value.c (b3, 0) fun x33 =>
 c_code_Value C Sl.nil x31 (fun r36 H37 =>
 Heap.le Hs29 H37 ∧
 c_code_Value C Sl.nil x33 (fun r39 H40 =>
 Heap.le Hs29 H40 ∧
 ift (((Sl.len r36 : Int) : Int) == 0)
 (K true H40)
 ((w .u64 (Sl.len r36 : Int)) ≠ 0 ∧
 slL r36 0 (w .i64 (Int.tmod (w .u64 p_k) (w .u64 (Sl.len r36 : Int)))) (Sl.cap r36 : Int) 1 fun t43 =>
 c_code_NewReader C t43 (fun r49 H50 =>
 c_code_Reader_Value C r49 (fun r51 H52 =>
 c_law03_behind C r36 p_tail (fun r53 H54 =>
 c_code_NewReader C r53 (fun r55 H56 =>
 jn (α := Bool) (fun x58 H59 =>
 ift x58
 (K false H59)
 (dr H59 fun Hs84 =>
 ift (((Sl.len r39 : Int) : Int) == 0)
 (K true H59)
 (ldT Hs84 T_api_Value.c (b1, 0) fun x87 =>
 ldT Hs84 T_api_Value.c (b3, 0) fun x89 =>
 c_ref02_Same C x87 x89 (fun r92 H93 =>
 Heap.le Hs84 H93 ∧
 ift r92
 (K true H93)
 (ift (decide (((Sl.len r39 : Int) : Int) > (Sl.len r36 : Int)))
 (K true H93)
 (slL r36 0 (Sl.len r39 : Int) (Sl.cap r36 : Int) 1 fun t96 =>
 b2s t96 (fun t102 =>
 b2s r39 (fun t105 =>
 K (!(t102 == t105)) H93) Hs84) Hs84))) H59)))
 (fun J57 => dr H56 fun Hs61 =>
 c_code_Reader_OK C r49 (fun r64 H65 =>
 Heap.le Hs61 H65 ∧
 ift r64
 (J57 true H65)
 (ldT Hs61 T_api_Value.c (b1, 0) fun x67 =>
 c_code_Reader_Value C r55 (fun r70 H71 =>
 Heap.le Hs61 H71 ∧
 c_ref02_Same C r70 x67 (fun r73 H74 =>
 Heap.le Hs61 H74 ∧
 ift (!r73)
 (J57 true H74)
 (c_code_Reader_OK C r55 (fun r77 H78 =>
 Heap.le Hs61 H78 ∧
 ift (!r77)
 (J57 true H78)
 (c_code_Reader_Left C r55 (fun r81 H82 =>
 Heap.le Hs61 H82 ∧
 J57 ((r81 : Int) != (Sl.len p_tail : Int)) H82) H78)) H74)) H71) H65)) H56)) H54) H52) H50) H40)) H37) H25))
 (fun J20 => ift (b9 || (decide (((Sl.len p_tail : Int) : Int) > 3000)))
 (J20 true H17)
 (c_law03_works C (fun r23 H24 =>
 J20 (!r23) H24) H17)))
 (fun J10 => ift r7
 (J10 true H8)
 (ldT H8 T_api_Value.c (b3, 0) fun x13 =>
 c_law03_wide C x13 (fun r15 H16 =>
 J10 r15 H16) H8))) H4) H2) H

theorem ad_law03_CodeApart (C : Ctx) (p_v : T_api_Value) (p_w : T_api_Value) (p_k : Int) (p_tail : Sl) (K : Bool → Heap → Prop) (H : Heap) (h : sh_law03_CodeApart C p_v p_w p_k p_tail K H) : c_law03_CodeApart C p_v p_w p_k p_tail K H := by
  refine Spec.enter Tryd.func8 rfl Tryd.ntmps8 rfl ?_
  refine GC.sub [(0, .agg (T_api_Value.c p_v).toArray), (1, .agg (T_api_Value.c p_w).toArray), (2, .int .i64 p_k), (3, slv p_tail)] ⟨rfl, rfl, rfl, rfl, trivial⟩ ?_
  refine GC.seq ?_
  refine GC.region ?_
  refine GL.box (v := .agg (T_api_Value.c p_v).toArray) (cs := T_api_Value.c p_v) h trivial rfl rfl rfl ?_
  intro b1 H2 h
  refine GL.box (v := .agg (T_api_Value.c p_w).toArray) (cs := T_api_Value.c p_w) h trivial rfl rfl rfl ?_
  intro b3 H4 h
  refine GL.val trivial rfl (OV.assign (v := .bool false) rfl) ?_
  refine GL.nil ?_
  refine GC.seq ?_
  refine GC.seq ?_
  refine GC.region ?_
  obtain ⟨x5, hr6, h⟩ := h
  refine GL.val trivial rfl (OV.loadT (p := (b1, 0)) (cs := T_api_Value.c x5) rfl rfl rfl hr6) ?_
  refine GL.call h trivial rfl ok_law03_wide (vs := [.agg (T_api_Value.c x5).toArray]) rfl ?_
  rintro _ H8 ⟨r7, rfl, h⟩
  refine GL.val trivial rfl (OV.move (v := .bool r7) rfl) ?_
  obtain ⟨J10, h, hR11⟩ := h
  refine GL.cut (α := Bool) 3 J10 (fun b9 => [(18, .bool b9), (2, .int .i64 p_k), (3, slv p_tail), (4, pv (some (b1, 0))), (5, pv (some (b3, 0)))]) ?_ ?_
  · rcases Bool.eq_false_or_eq_true r7 with hc12 | hc12
    · skip
      replace h := And.left h hc12
      refine GL.skip ⟨_, rfl, .inl ⟨_, rfl, hc12⟩⟩ rfl ?_
      refine GL.skip ⟨_, rfl, .inl ⟨_, rfl, hc12⟩⟩ rfl ?_
      refine GL.val trivial rfl (OV.pickT (b := r7) (v := .bool true) rfl hc12 rfl) ?_
      exact GL.jump (fun _ _ h => h) true h ⟨rfl, rfl, rfl, rfl, rfl, trivial⟩
    · skip
      replace h := And.right h hc12
      obtain ⟨x13, hr14, h⟩ := h
      refine GL.val ⟨_, _, rfl, rfl, hc12⟩ rfl (OV.loadT (p := (b3, 0)) (cs := T_api_Value.c x13) rfl rfl rfl hr14) ?_
      refine GL.call h ⟨_, _, rfl, rfl, hc12⟩ rfl ok_law03_wide (vs := [.agg (T_api_Value.c x13).toArray]) rfl ?_
      rintro _ H16 ⟨r15, rfl, h⟩
      refine GL.val trivial rfl (OV.pickF (b := r7) (v := .bool r15) rfl hc12 rfl) ?_
      exact GL.jump (fun _ _ h => h) r15 h ⟨rfl, rfl, rfl, rfl, rfl, trivial⟩
  intro b9 H17 h
  replace h := hR11 b9 H17 h
  refine GL.val trivial rfl (OV.move (v := .bool b9) rfl) ?_
  refine GL.cut0 4 [(23, .bool (b9 || (decide (((Sl.len p_tail : Int) : Int) > 3000)))), (2, .int .i64 p_k), (3, slv p_tail), (4, pv (some (b1, 0))), (5, pv (some (b3, 0)))] ?_ ?_
  · rcases Bool.eq_false_or_eq_true b9 with hc18 | hc18
    · skip
      refine GL.skip ⟨_, rfl, .inl ⟨_, rfl, hc18⟩⟩ rfl ?_
      refine GL.skip ⟨_, rfl, .inl ⟨_, rfl, hc18⟩⟩ rfl ?_
      refine GL.skip ⟨_, rfl, .inl ⟨_, rfl, hc18⟩⟩ rfl ?_
      refine GL.val trivial rfl (OV.pickT (b := b9) (v := .bool true) rfl hc18 rfl) ?_
      exact GL.jump0 (fun _ _ h => h) () rfl ⟨(by rw [hc18]; rfl), rfl, rfl, rfl, rfl, trivial⟩
    · skip
      refine GL.val ⟨_, _, rfl, rfl, hc18⟩ rfl (OV.move (v := slv p_tail) rfl) ?_
      refine GL.val ⟨_, _, rfl, rfl, hc18⟩ rfl (OV.lenSl (s := p_tail) rfl rfl) ?_
      refine GL.val ⟨_, _, rfl, rfl, hc18⟩ rfl (OV.ibin (v := .bool (decide (((Sl.len p_tail : Int) : Int) > 3000))) rfl rfl rfl) ?_
      refine GL.val trivial rfl (OV.pickF (b := b9) (v := .bool (decide (((Sl.len p_tail : Int) : Int) > 3000))) rfl hc18 rfl) ?_
      exact GL.jump0 (fun _ _ h => h) () rfl ⟨(by rw [hc18]; rfl), rfl, rfl, rfl, rfl, trivial⟩
  refine GL.val trivial rfl (OV.move (v := .bool (b9 || (decide (((Sl.len p_tail : Int) : Int) > 3000)))) rfl) ?_
  obtain ⟨J20, h, hR21⟩ := h
  refine GL.cut (α := Bool) 3 J20 (fun b19 => [(27, .bool b19), (2, .int .i64 p_k), (3, slv p_tail), (4, pv (some (b1, 0))), (5, pv (some (b3, 0)))]) ?_ ?_
  · rcases Bool.eq_false_or_eq_true (b9 || (decide (((Sl.len p_tail : Int) : Int) > 3000))) with hc22 | hc22
    · skip
      replace h := And.left h hc22
      refine GL.skip ⟨_, rfl, .inl ⟨_, rfl, hc22⟩⟩ rfl ?_
      refine GL.skip ⟨_, rfl, .inl ⟨_, rfl, hc22⟩⟩ rfl ?_
      refine GL.val trivial rfl (OV.pickT (b := b9 || (decide (((Sl.len p_tail : Int) : Int) > 3000))) (v := .bool true) rfl hc22 rfl) ?_
      exact GL.jump (fun _ _ h => h) true h ⟨rfl, rfl, rfl, rfl, rfl, trivial⟩
    · skip
      replace h := And.right h hc22
      refine GL.call h ⟨_, _, rfl, rfl, hc22⟩ rfl ok_law03_works (vs := []) rfl ?_
      rintro _ H24 ⟨r23, rfl, h⟩
      refine GL.val ⟨_, _, rfl, rfl, hc22⟩ rfl (OV.not rfl) ?_
      refine GL.val trivial rfl (OV.pickF (b := b9 || (decide (((Sl.len p_tail : Int) : Int) > 3000))) (v := .bool (!r23)) rfl hc22 rfl) ?_
      exact GL.jump (fun _ _ h => h) (!r23) h ⟨rfl, rfl, rfl, rfl, rfl, trivial⟩
  intro b19 H25 h
  replace h := hR21 b19 H25 h
  refine GL.nil ?_
  refine GC.cond (b := b19) rfl (fun hc26 => ?_) (fun hc26 => ?_)
  · replace h := And.left h hc26
    refine GC.seq ?_
    refine GC.region ?_
    refine GL.call h trivial rfl ok_law03_works (vs := []) rfl ?_
    rintro _ H28 ⟨r27, rfl, h⟩
    refine GL.val trivial rfl (OV.assign (v := .bool r27) rfl) ?_
    refine GL.nil ?_
    exact GC.ret (fun _ _ hf hs => post_tmp1 rfl rfl hf hs ⟨r27, rfl, h⟩)
  · replace h := And.right h hc26
    refine GC.skip ?_
    refine GC.seq ?_
    obtain ⟨Hs29, hle30, h⟩ := h
    refine GC.any (Hs := Hs29) (by kernel_rfl) hle30 ?_
    obtain ⟨x31, hr32, h⟩ := h
    refine GA.take 0 rfl (by kernel_rfl) (by kernel_rfl) (by kernel_rfl) (fun _ _ _ h => by obtain ⟨_, _, _, h, _⟩ := h; cases h) trivial rfl (OV.loadT (p := (b1, 0)) (cs := T_api_Value.c x31) rfl rfl rfl hr32) ?_
    obtain ⟨x33, hr34, h⟩ := h
    refine GA.take 2 rfl (by kernel_rfl) (by kernel_rfl) (by kernel_rfl) (fun _ _ _ h => by obtain ⟨_, _, _, h, _⟩ := h; cases h) trivial rfl (OV.loadT (p := (b3, 0)) (cs := T_api_Value.c x33) rfl rfl rfl hr34) ?_
    refine GA.eff 1 rfl (by kernel_rfl) ?_
    refine GL.call h trivial rfl ok_code_Value (vs := [slv Sl.nil, .agg (T_api_Value.c x31).toArray]) rfl ?_
    rintro _ H37 ⟨r36, rfl, h⟩
    obtain ⟨hle35, h⟩ := h
    refine GA.back hle35 ?_
    refine GA.eff 3 rfl (by kernel_rfl) ?_
    refine GL.call h trivial rfl ok_code_Value (vs := [slv Sl.nil, .agg (T_api_Value.c x33).toArray]) rfl ?_
    rintro _ H40 ⟨r39, rfl, h⟩
    obtain ⟨hle38, h⟩ := h
    refine GA.back hle38 ?_
    refine GA.take 4 rfl (by kernel_rfl) (by kernel_rfl) (by kernel_rfl) (fun _ _ _ h => by obtain ⟨_, _, _, h, _⟩ := h; cases h) trivial rfl (OV.assign (v := slv r36) rfl) ?_
    refine GA.take 5 rfl (by kernel_rfl) (by kernel_rfl) (by kernel_rfl) (fun _ _ _ h => by obtain ⟨_, _, _, h, _⟩ := h; cases h) trivial rfl (OV.assign (v := slv r39) rfl) ?_
    refine GA.done (by kernel_rfl) ?_
    refine GL.nil ?_
    refine GC.seq ?_
    refine GC.seq ?_
    refine GC.region ?_
    refine GL.val trivial rfl (OV.move (v := slv r36) rfl) ?_
    refine GL.val trivial rfl (OV.lenSl (s := r36) rfl rfl) ?_
    refine GL.val trivial rfl (OV.ibin (v := .bool (((Sl.len r36 : Int) : Int) == 0)) rfl rfl rfl) ?_
    refine GL.nil ?_
    refine GC.cond (b := ((Sl.len r36 : Int) : Int) == 0) rfl (fun hc41 => ?_) (fun hc41 => ?_)
    · replace h := And.left h hc41
      refine GC.seq ?_
      refine GC.region ?_
      refine GL.val trivial rfl (OV.assign (v := .bool true) rfl) ?_
      refine GL.nil ?_
      exact GC.ret (fun _ _ hf hs => post_tmp1 rfl rfl hf hs ⟨true, rfl, h⟩)
    · replace h := And.right h hc41
      refine GC.skip ?_
      refine GC.seq ?_
      refine GC.region ?_
      refine GL.val trivial rfl (OV.move (v := slv r36) rfl) ?_
      refine GL.val trivial rfl (OV.move (v := .int .i64 p_k) rfl) ?_
      refine GL.val trivial rfl (OV.convInt rfl rfl rfl) ?_
      refine GL.val trivial rfl (OV.move (v := slv r36) rfl) ?_
      refine GL.val trivial rfl (OV.lenSl (s := r36) rfl rfl) ?_
      refine GL.val trivial rfl (OV.convInt rfl rfl rfl) ?_
      obtain ⟨hb42, h⟩ := h
      refine GL.val trivial rfl (OV.rem rfl rfl hb42) ?_
      refine GL.val trivial rfl (OV.convInt rfl rfl rfl) ?_
      obtain ⟨h44, h45, h46, h47, t43, h48, h⟩ := h
      refine GL.val trivial rfl (OV.sliceSl (s := r36) h44 h45 h46 h47 h48 rfl rfl rfl rfl rfl rfl rfl (fun h => by first | rfl | cases h) rfl rfl) ?_
      refine GL.call h trivial rfl ok_code_NewReader (vs := [slv t43]) rfl ?_
      rintro _ H50 ⟨r49, rfl, h⟩
      refine GL.val trivial rfl (OV.assign (v := pv r49) rfl) ?_
      refine GL.nil ?_
      refine GC.seq ?_
      refine GC.region ?_
      refine GL.val trivial rfl (OV.move (v := pv r49) rfl) ?_
      refine GL.call h trivial rfl ok_code_Reader_Value (vs := [pv r49]) rfl ?_
      rintro _ H52 ⟨r51, rfl, h⟩
      refine GL.nil ?_
      refine GC.seq ?_
      refine GC.region ?_
      refine GL.val trivial rfl (OV.move (v := slv r36) rfl) ?_
      refine GL.val trivial rfl (OV.move (v := slv p_tail) rfl) ?_
      refine GL.call h trivial rfl ok_law03_behind (vs := [slv r36, slv p_tail]) rfl ?_
      rintro _ H54 ⟨r53, rfl, h⟩
      refine GL.call h trivial rfl ok_code_NewReader (vs := [slv r53]) rfl ?_
      rintro _ H56 ⟨r55, rfl, h⟩
      refine GL.val trivial rfl (OV.assign (v := pv r55) rfl) ?_
      refine GL.nil ?_
      refine GC.seq ?_
      refine GC.seq ?_
      obtain ⟨J57, h, hR60⟩ := h
      refine GC.meet (α := Bool) J57 (fun x58 => [(72, .bool x58), (4, pv (some (b1, 0))), (5, pv (some (b3, 0))), (9, slv r36), (10, slv r39)]) ?_ ?_
      · skip
        obtain ⟨Hs61, hle62, h⟩ := h
        refine GC.any (Hs := Hs61) (by kernel_rfl) hle62 ?_
        refine GA.take 0 rfl (by kernel_rfl) (by kernel_rfl) (by kernel_rfl) (fun _ _ _ h => by obtain ⟨_, _, _, h, _⟩ := h; cases h) trivial rfl (OV.move (v := pv r49) rfl) ?_
        refine GA.eff 1 rfl (by kernel_rfl) ?_
        refine GL.call h trivial rfl ok_code_Reader_OK (vs := [pv r49]) rfl ?_
        rintro _ H65 ⟨r64, rfl, h⟩
        obtain ⟨hle63, h⟩ := h
        refine GA.back hle63 ?_
        refine GA.take 2 rfl (by kernel_rfl) (by kernel_rfl) (by kernel_rfl) (fun _ _ _ h => by obtain ⟨_, _, _, h, _⟩ := h; cases h) trivial rfl (OV.move (v := .bool r64) rfl) ?_
        rcases Bool.eq_false_or_eq_true r64 with hc66 | hc66
        · replace h := And.left h hc66
          refine GA.skip 3 rfl (by kernel_rfl) (by kernel_rfl) (by kernel_rfl) (fun _ _ _ h => by obtain ⟨_, _, _, h, _⟩ := h; cases h) ⟨_, rfl, .inl ⟨_, rfl, hc66⟩⟩ rfl ?_
          refine GA.skip 4 rfl (by kernel_rfl) (by kernel_rfl) (by kernel_rfl) (fun _ _ _ h => by obtain ⟨_, _, _, h, _⟩ := h; cases h) ⟨_, rfl, .inl ⟨_, rfl, hc66⟩⟩ rfl ?_
          refine GA.skip 5 rfl (by kernel_rfl) (by kernel_rfl) (by kernel_rfl) (fun _ _ _ h => by obtain ⟨_, _, _, h, _⟩ := h; cases h) ⟨_, rfl, .inl ⟨_, rfl, hc66⟩⟩ rfl ?_
          refine GA.skip 6 rfl (by kernel_rfl) (by kernel_rfl) (by kernel_rfl) (fun _ _ _ h => by obtain ⟨_, _, _, h, _⟩ := h; cases h) ⟨_, rfl, .inl ⟨_, rfl, hc66⟩⟩ rfl ?_
          refine GA.skip 7 rfl (by kernel_rfl) (by kernel_rfl) (by kernel_rfl) (fun _ _ _ h => by obtain ⟨_, _, _, h, _⟩ := h; cases h) ⟨_, rfl, .inl ⟨_, rfl, hc66⟩⟩ rfl ?_
          refine GA.take 8 rfl (by kernel_rfl) (by kernel_rfl) (by kernel_rfl) (fun _ _ _ h => by obtain ⟨_, _, _, h, _⟩ := h; cases h) trivial rfl (OV.pickT (b := r64) (v := .bool true) rfl hc66 rfl) ?_
          refine GA.take 9 rfl (by kernel_rfl) (by kernel_rfl) (by kernel_rfl) (fun _ _ _ h => by obtain ⟨_, _, _, h, _⟩ := h; cases h) trivial rfl (OV.move (v := .bool true) rfl) ?_
          refine GA.skip 10 rfl (by kernel_rfl) (by kernel_rfl) (by kernel_rfl) (fun _ _ _ h => by obtain ⟨_, _, _, h, _⟩ := h; cases h) ⟨_, rfl, .inl ⟨_, rfl, rfl⟩⟩ rfl ?_
          refine GA.skip 11 rfl (by kernel_rfl) (by kernel_rfl) (by kernel_rfl) (fun _ _ _ h => by obtain ⟨_, _, _, h, _⟩ := h; cases h) ⟨_, rfl, .inl ⟨_, rfl, rfl⟩⟩ rfl ?_
          refine GA.skip 12 rfl (by kernel_rfl) (by kernel_rfl) (by kernel_rfl) (fun _ _ _ h => by obtain ⟨_, _, _, h, _⟩ := h; cases h) ⟨_, rfl, .inl ⟨_, rfl, rfl⟩⟩ rfl ?_
          refine GA.take 13 rfl (by kernel_rfl) (by kernel_rfl) (by kernel_rfl) (fun _ _ _ h => by obtain ⟨_, _, _, h, _⟩ := h; cases h) trivial rfl (OV.pickT (b := true) (v := .bool true) rfl rfl rfl) ?_
          refine GA.take 14 rfl (by kernel_rfl) (by kernel_rfl) (by kernel_rfl) (fun _ _ _ h => by obtain ⟨_, _, _, h, _⟩ := h; cases h) trivial rfl (OV.move (v := .bool true) rfl) ?_
          refine GA.skip 15 rfl (by kernel_rfl) (by kernel_rfl) (by kernel_rfl) (fun _ _ _ h => by obtain ⟨_, _, _, h, _⟩ := h; cases h) ⟨_, rfl, .inl ⟨_, rfl, rfl⟩⟩ rfl ?_
          refine GA.skip 16 rfl (by kernel_rfl) (by kernel_rfl) (by kernel_rfl) (fun _ _ _ h => by obtain ⟨_, _, _, h, _⟩ := h; cases h) ⟨_, rfl, .inl ⟨_, rfl, rfl⟩⟩ rfl ?_
          refine GA.skip 17 rfl (by kernel_rfl) (by kernel_rfl) (by kernel_rfl) (fun _ _ _ h => by obtain ⟨_, _, _, h, _⟩ := h; cases h) ⟨_, rfl, .inl ⟨_, rfl, rfl⟩⟩ rfl ?_
          refine GA.skip 18 rfl (by kernel_rfl) (by kernel_rfl) (by kernel_rfl) (fun _ _ _ h => by obtain ⟨_, _, _, h, _⟩ := h; cases h) ⟨_, rfl, .inl ⟨_, rfl, rfl⟩⟩ rfl ?_
          refine GA.skip 19 rfl (by kernel_rfl) (by kernel_rfl) (by kernel_rfl) (fun _ _ _ h => by obtain ⟨_, _, _, h, _⟩ := h; cases h) ⟨_, rfl, .inl ⟨_, rfl, rfl⟩⟩ rfl ?_
          refine GA.take 20 rfl (by kernel_rfl) (by kernel_rfl) (by kernel_rfl) (fun _ _ _ h => by obtain ⟨_, _, _, h, _⟩ := h; cases h) trivial rfl (OV.pickT (b := true) (v := .bool true) rfl rfl rfl) ?_
          refine GA.done (by kernel_rfl) ?_
          exact GL.jump (fun _ _ h => h) true h ⟨rfl, rfl, rfl, rfl, rfl, trivial⟩
        · replace h := And.right h hc66
          refine GA.take 3 rfl (by kernel_rfl) (by kernel_rfl) (by kernel_rfl) (fun _ _ _ h => by obtain ⟨_, _, _, h, _⟩ := h; cases h) ⟨_, _, rfl, rfl, hc66⟩ rfl (OV.move (v := pv r55) rfl) ?_
          obtain ⟨x67, hr68, h⟩ := h
          refine GA.take 5 rfl (by kernel_rfl) (by kernel_rfl) (by kernel_rfl) (fun _ _ _ h => by obtain ⟨_, _, _, h, _⟩ := h; cases h) ⟨_, _, rfl, rfl, hc66⟩ rfl (OV.loadT (p := (b1, 0)) (cs := T_api_Value.c x67) rfl rfl rfl hr68) ?_
          refine GA.eff 4 rfl (by kernel_rfl) ?_
          refine GL.call h ⟨_, _, rfl, rfl, hc66⟩ rfl ok_code_Reader_Value (vs := [pv r55]) rfl ?_
          rintro _ H71 ⟨r70, rfl, h⟩
          obtain ⟨hle69, h⟩ := h
          refine GA.back hle69 ?_
          refine GA.eff 6 rfl (by kernel_rfl) ?_
          refine GL.call h ⟨_, _, rfl, rfl, hc66⟩ rfl ok_ref02_Same (vs := [.agg (T_api_Value.c r70).toArray, .agg (T_api_Value.c x67).toArray]) rfl ?_
          rintro _ H74 ⟨r73, rfl, h⟩
          obtain ⟨hle72, h⟩ := h
          refine GA.back hle72 ?_
          refine GA.take 7 rfl (by kernel_rfl) (by kernel_rfl) (by kernel_rfl) (fun _ _ _ h => by obtain ⟨_, _, _, h, _⟩ := h; cases h) ⟨_, _, rfl, rfl, hc66⟩ rfl (OV.not rfl) ?_
          refine GA.take 8 rfl (by kernel_rfl) (by kernel_rfl) (by kernel_rfl) (fun _ _ _ h => by obtain ⟨_, _, _, h, _⟩ := h; cases h) trivial rfl (OV.pickF (b := r64) (v := .bool (!r73)) rfl hc66 rfl) ?_
          refine GA.take 9 rfl (by kernel_rfl) (by kernel_rfl) (by kernel_rfl) (fun _ _ _ h => by obtain ⟨_, _, _, h, _⟩ := h; cases h) trivial rfl (OV.move (v := .bool (!r73)) rfl) ?_
          rcases Bool.eq_false_or_eq_true (!r73) with hc75 | hc75
          · replace h := And.left h hc75
            refine GA.skip 10 rfl (by kernel_rfl) (by kernel_rfl) (by kernel_rfl) (fun _ _ _ h => by obtain ⟨_, _, _, h, _⟩ := h; cases h) ⟨_, rfl, .inl ⟨_, rfl, hc75⟩⟩ rfl ?_
            refine GA.skip 11 rfl (by kernel_rfl) (by kernel_rfl) (by kernel_rfl) (fun _ _ _ h => by obtain ⟨_, _, _, h, _⟩ := h; cases h) ⟨_, rfl, .inl ⟨_, rfl, hc75⟩⟩ rfl ?_
            refine GA.skip 12 rfl (by kernel_rfl) (by kernel_rfl) (by kernel_rfl) (fun _ _ _ h => by obtain ⟨_, _, _, h, _⟩ := h; cases h) ⟨_, rfl, .inl ⟨_, rfl, hc75⟩⟩ rfl ?_
            refine GA.take 13 rfl (by kernel_rfl) (by kernel_rfl) (by kernel_rfl) (fun _ _ _ h => by obtain ⟨_, _, _, h, _⟩ := h; cases h) trivial rfl (OV.pickT (b := !r73) (v := .bool true) rfl hc75 rfl) ?_
            refine GA.take 14 rfl (by kernel_rfl) (by kernel_rfl) (by kernel_rfl) (fun _ _ _ h => by obtain ⟨_, _, _, h, _⟩ := h; cases h) trivial rfl (OV.move (v := .bool true) rfl) ?_
            refine GA.skip 15 rfl (by kernel_rfl) (by kernel_rfl) (by kernel_rfl) (fun _ _ _ h => by obtain ⟨_, _, _, h, _⟩ := h; cases h) ⟨_, rfl, .inl ⟨_, rfl, rfl⟩⟩ rfl ?_
            refine GA.skip 16 rfl (by kernel_rfl) (by kernel_rfl) (by kernel_rfl) (fun _ _ _ h => by obtain ⟨_, _, _, h, _⟩ := h; cases h) ⟨_, rfl, .inl ⟨_, rfl, rfl⟩⟩ rfl ?_
            refine GA.skip 17 rfl (by kernel_rfl) (by kernel_rfl) (by kernel_rfl) (fun _ _ _ h => by obtain ⟨_, _, _, h, _⟩ := h; cases h) ⟨_, rfl, .inl ⟨_, rfl, rfl⟩⟩ rfl ?_
            refine GA.skip 18 rfl (by kernel_rfl) (by kernel_rfl) (by kernel_rfl) (fun _ _ _ h => by obtain ⟨_, _, _, h, _⟩ := h; cases h) ⟨_, rfl, .inl ⟨_, rfl, rfl⟩⟩ rfl ?_
            refine GA.skip 19 rfl (by kernel_rfl) (by kernel_rfl) (by kernel_rfl) (fun _ _ _ h => by obtain ⟨_, _, _, h, _⟩ := h; cases h) ⟨_, rfl, .inl ⟨_, rfl, rfl⟩⟩ rfl ?_
            refine GA.take 20 rfl (by kernel_rfl) (by kernel_rfl) (by kernel_rfl) (fun _ _ _ h => by obtain ⟨_, _, _, h, _⟩ := h; cases h) trivial rfl (OV.pickT (b := true) (v := .bool true) rfl rfl rfl) ?_
            refine GA.done (by kernel_rfl) ?_
            exact GL.jump (fun _ _ h => h) true h ⟨rfl, rfl, rfl, rfl, rfl, trivial⟩
          · replace h := And.right h hc75
            refine GA.take 10 rfl (by kernel_rfl) (by kernel_rfl) (by kernel_rfl) (fun _ _ _ h => by obtain ⟨_, _, _, h, _⟩ := h; cases h) ⟨_, _, rfl, rfl, hc75⟩ rfl (OV.move (v := pv r55) rfl) ?_
            refine GA.eff 11 rfl (by kernel_rfl) ?_
            refine GL.call h ⟨_, _, rfl, rfl, hc75⟩ rfl ok_code_Reader_OK (vs := [pv r55]) rfl ?_
            rintro _ H78 ⟨r77, rfl, h⟩
            obtain ⟨hle76, h⟩ := h
            refine GA.back hle76 ?_
            refine GA.take 12 rfl (by kernel_rfl) (by kernel_rfl) (by kernel_rfl) (fun _ _ _ h => by obtain ⟨_, _, _, h, _⟩ := h; cases h) ⟨_, _, rfl, rfl, hc75⟩ rfl (OV.not rfl) ?_
            refine GA.take 13 rfl (by kernel_rfl) (by kernel_rfl) (by kernel_rfl) (fun _ _ _ h => by obtain ⟨_, _, _, h, _⟩ := h; cases h) trivial rfl (OV.pickF (b := !r73) (v := .bool (!r77)) rfl hc75 rfl) ?_
            refine GA.take 14 rfl (by kernel_rfl) (by kernel_rfl) (by kernel_rfl) (fun _ _ _ h => by obtain ⟨_, _, _, h, _⟩ := h; cases h) trivial rfl (OV.move (v := .bool (!r77)) rfl) ?_
            rcases Bool.eq_false_or_eq_true (!r77) with hc79 | hc79
            · replace h := And.left h hc79
              refine GA.skip 15 rfl (by kernel_rfl) (by kernel_rfl) (by kernel_rfl) (fun _ _ _ h => by obtain ⟨_, _, _, h, _⟩ := h; cases h) ⟨_, rfl, .inl ⟨_, rfl, hc79⟩⟩ rfl ?_
              refine GA.skip 16 rfl (by kernel_rfl) (by kernel_rfl) (by kernel_rfl) (fun _ _ _ h => by obtain ⟨_, _, _, h, _⟩ := h; cases h) ⟨_, rfl, .inl ⟨_, rfl, hc79⟩⟩ rfl ?_
              refine GA.skip 17 rfl (by kernel_rfl) (by kernel_rfl) (by kernel_rfl) (fun _ _ _ h => by obtain ⟨_, _, _, h, _⟩ := h; cases h) ⟨_, rfl, .inl ⟨_, rfl, hc79⟩⟩ rfl ?_
              refine GA.skip 18 rfl (by kernel_rfl) (by kernel_rfl) (by kernel_rfl) (fun _ _ _ h => by obtain ⟨_, _, _, h, _⟩ := h; cases h) ⟨_, rfl, .inl ⟨_, rfl, hc79⟩⟩ rfl ?_
              refine GA.skip 19 rfl (by kernel_rfl) (by kernel_rfl) (by kernel_rfl) (fun _ _ _ h => by obtain ⟨_, _, _, h, _⟩ := h; cases h) ⟨_, rfl, .inl ⟨_, rfl, hc79⟩⟩ rfl ?_
              refine GA.take 20 rfl (by kernel_rfl) (by kernel_rfl) (by kernel_rfl) (fun _ _ _ h => by obtain ⟨_, _, _, h, _⟩ := h; cases h) trivial rfl (OV.pickT (b := !r77) (v := .bool true) rfl hc79 rfl) ?_
              refine GA.done (by kernel_rfl) ?_
              exact GL.jump (fun _ _ h => h) true h ⟨rfl, rfl, rfl, rfl, rfl, trivial⟩
            · replace h := And.right h hc79
              refine GA.take 15 rfl (by kernel_rfl) (by kernel_rfl) (by kernel_rfl) (fun _ _ _ h => by obtain ⟨_, _, _, h, _⟩ := h; cases h) ⟨_, _, rfl, rfl, hc79⟩ rfl (OV.move (v := pv r55) rfl) ?_
              refine GA.take 17 rfl (by kernel_rfl) (by kernel_rfl) (by kernel_rfl) (fun _ _ _ h => by obtain ⟨_, _, _, h, _⟩ := h; cases h) ⟨_, _, rfl, rfl, hc79⟩ rfl (OV.move (v := slv p_tail) rfl) ?_
              refine GA.take 18 rfl (by kernel_rfl) (by kernel_rfl) (by kernel_rfl) (fun _ _ _ h => by obtain ⟨_, _, _, h, _⟩ := h; cases h) ⟨_, _, rfl, rfl, hc79⟩ rfl (OV.lenSl (s := p_tail) rfl rfl) ?_
              refine GA.eff 16 rfl (by kernel_rfl) ?_
              refine GL.call h ⟨_, _, rfl, rfl, hc79⟩ rfl ok_code_Reader_Left (vs := [pv r55]) rfl ?_
              rintro _ H82 ⟨r81, rfl, h⟩
              obtain ⟨hle80, h⟩ := h
              refine GA.back hle80 ?_
              refine GA.take 19 rfl (by kernel_rfl) (by kernel_rfl) (by kernel_rfl) (fun _ _ _ h => by obtain ⟨_, _, _, h, _⟩ := h; cases h) ⟨_, _, rfl, rfl, hc79⟩ rfl (OV.ibin (v := .bool ((r81 : Int) != (Sl.len p_tail : Int))) rfl rfl rfl) ?_
              refine GA.take 20 rfl (by kernel_rfl) (by kernel_rfl) (by kernel_rfl) (fun _ _ _ h => by obtain ⟨_, _, _, h, _⟩ := h; cases h) trivial rfl (OV.pickF (b := !r77) (v := .bool ((r81 : Int) != (Sl.len p_tail : Int))) rfl hc79 rfl) ?_
              refine GA.done (by kernel_rfl) ?_
              exact GL.jump (fun _ _ h => h) ((r81 : Int) != (Sl.len p_tail : Int)) h ⟨rfl, rfl, rfl, rfl, rfl, trivial⟩
      · intro x58 H59 h
        replace h := hR60 x58 H59 h
        refine GL.nil ?_
        refine GC.cond (b := x58) rfl (fun hc83 => ?_) (fun hc83 => ?_)
        · replace h := And.left h hc83
          refine GC.seq ?_
          refine GC.region ?_
          refine GL.val trivial rfl (OV.assign (v := .bool false) rfl) ?_
          refine GL.nil ?_
          exact GC.ret (fun _ _ hf hs => post_tmp1 rfl rfl hf hs ⟨false, rfl, h⟩)
        · replace h := And.right h hc83
          refine GC.skip ?_
          refine GC.seq ?_
          obtain ⟨Hs84, hle85, h⟩ := h
          refine GC.any (Hs := Hs84) (by kernel_rfl) hle85 ?_
          refine GA.take 0 rfl (by kernel_rfl) (by kernel_rfl) (by kernel_rfl) (fun _ _ _ h => by obtain ⟨_, _, _, h, _⟩ := h; cases h) trivial rfl (OV.move (v := slv r39) rfl) ?_
          refine GA.take 1 rfl (by kernel_rfl) (by kernel_rfl) (by kernel_rfl) (fun _ _ _ h => by obtain ⟨_, _, _, h, _⟩ := h; cases h) trivial rfl (OV.lenSl (s := r39) rfl rfl) ?_
          refine GA.take 2 rfl (by kernel_rfl) (by kernel_rfl) (by kernel_rfl) (fun _ _ _ h => by obtain ⟨_, _, _, h, _⟩ := h; cases h) trivial rfl (OV.ibin (v := .bool (((Sl.len r39 : Int) : Int) == 0)) rfl rfl rfl) ?_
          refine GA.take 3 rfl (by kernel_rfl) (by kernel_rfl) (by kernel_rfl) (fun _ _ _ h => by obtain ⟨_, _, _, h, _⟩ := h; cases h) trivial rfl (OV.move (v := .bool (((Sl.len r39 : Int) : Int) == 0)) rfl) ?_
          rcases Bool.eq_false_or_eq_true (((Sl.len r39 : Int) : Int) == 0) with hc86 | hc86
          · replace h := And.left h hc86
            refine GA.skip 4 rfl (by kernel_rfl) (by kernel_rfl) (by kernel_rfl) (fun _ _ _ h => by obtain ⟨_, _, _, h, _⟩ := h; cases h) ⟨_, rfl, .inl ⟨_, rfl, hc86⟩⟩ rfl ?_
            refine GA.skip 5 rfl (by kernel_rfl) (by kernel_rfl) (by kernel_rfl) (fun _ _ _ h => by obtain ⟨_, _, _, h, _⟩ := h; cases h) ⟨_, rfl, .inl ⟨_, rfl, hc86⟩⟩ rfl ?_
            refine GA.skip 6 rfl (by kernel_rfl) (by kernel_rfl) (by kernel_rfl) (fun _ _ _ h => by obtain ⟨_, _, _, h, _⟩ := h; cases h) ⟨_, rfl, .inl ⟨_, rfl, hc86⟩⟩ rfl ?_
            refine GA.take 7 rfl (by kernel_rfl) (by kernel_rfl) (by kernel_rfl) (fun _ _ _ h => by obtain ⟨_, _, _, h, _⟩ := h; cases h) trivial rfl (OV.pickT (b := ((Sl.len r39 : Int) : Int) == 0) (v := .bool true) rfl hc86 rfl) ?_
            refine GA.take 8 rfl (by kernel_rfl) (by kernel_rfl) (by kernel_rfl) (fun _ _ _ h => by obtain ⟨_, _, _, h, _⟩ := h; cases h) trivial rfl (OV.move (v := .bool true) rfl) ?_
            refine GA.skip 9 rfl (by kernel_rfl) (by kernel_rfl) (by kernel_rfl) (fun _ _ _ h => by obtain ⟨_, _, _, h, _⟩ := h; cases h) ⟨_, rfl, .inl ⟨_, rfl, rfl⟩⟩ rfl ?_
            refine GA.skip 10 rfl (by kernel_rfl) (by kernel_rfl) (by kernel_rfl) (fun _ _ _ h => by obtain ⟨_, _, _, h, _⟩ := h; cases h) ⟨_, rfl, .inl ⟨_, rfl, rfl⟩⟩ rfl ?_
            refine GA.skip 11 rfl (by kernel_rfl) (by kernel_rfl) (by kernel_rfl) (fun _ _ _ h => by obtain ⟨_, _, _, h, _⟩ := h; cases h) ⟨_, rfl, .inl ⟨_, rfl, rfl⟩⟩ rfl ?_
            refine GA.skip 12 rfl (by kernel_rfl) (by kernel_rfl) (by kernel_rfl) (fun _ _ _ h => by obtain ⟨_, _, _, h, _⟩ := h; cases h) ⟨_, rfl, .inl ⟨_, rfl, rfl⟩⟩ rfl ?_
            refine GA.skip 13 rfl (by kernel_rfl) (by kernel_rfl) (by kernel_rfl) (fun _ _ _ h => by obtain ⟨_, _, _, h, _⟩ := h; cases h) ⟨_, rfl, .inl ⟨_, rfl, rfl⟩⟩ rfl ?_
            refine GA.take 14 rfl (by kernel_rfl) (by kernel_rfl) (by kernel_rfl) (fun _ _ _ h => by obtain ⟨_, _, _, h, _⟩ := h; cases h) trivial rfl (OV.pickT (b := true) (v := .bool true) rfl rfl rfl) ?_
            refine GA.take 15 rfl (by kernel_rfl) (by kernel_rfl) (by kernel_rfl) (fun _ _ _ h => by obtain ⟨_, _, _, h, _⟩ := h; cases h) trivial rfl (OV.move (v := .bool true) rfl) ?_
            refine GA.skip 16 rfl (by kernel_rfl) (by kernel_rfl) (by kernel_rfl) (fun _ _ _ h => by obtain ⟨_, _, _, h, _⟩ := h; cases h) ⟨_, rfl, .inl ⟨_, rfl, rfl⟩⟩ rfl ?_
            refine GA.skip 17 rfl (by kernel_rfl) (by kernel_rfl) (by kernel_rfl) (fun _ _ _ h => by obtain ⟨_, _, _, h, _⟩ := h; cases h) ⟨_, rfl, .inl ⟨_, rfl, rfl⟩⟩ rfl ?_
            refine GA.skip 18 rfl (by kernel_rfl) (by kernel_rfl) (by kernel_rfl) (fun _ _ _ h => by obtain ⟨_, _, _, h, _⟩ := h; cases h) ⟨_, rfl, .inl ⟨_, rfl, rfl⟩⟩ rfl ?_
            refine GA.skip 19 rfl (by kernel_rfl) (by kernel_rfl) (by kernel_rfl) (fun _ _ _ h => by obtain ⟨_, _, _, h, _⟩ := h; cases h) ⟨_, rfl, .inl ⟨_, rfl, rfl⟩⟩ rfl ?_
            refine GA.skip 20 rfl (by kernel_rfl) (by kernel_rfl) (by kernel_rfl) (fun _ _ _ h => by obtain ⟨_, _, _, h, _⟩ := h; cases h) ⟨_, rfl, .inl ⟨_, rfl, rfl⟩⟩ rfl ?_
            refine GA.skip 21 rfl (by kernel_rfl) (by kernel_rfl) (by kernel_rfl) (fun _ _ _ h => by obtain ⟨_, _, _, h, _⟩ := h; cases h) ⟨_, rfl, .inl ⟨_, rfl, rfl⟩⟩ rfl ?_
            refine GA.skip 22 rfl (by kernel_rfl) (by kernel_rfl) (by kernel_rfl) (fun _ _ _ h => by obtain ⟨_, _, _, h, _⟩ := h; cases h) ⟨_, rfl, .inl ⟨_, rfl, rfl⟩⟩ rfl ?_
            refine GA.skip 23 rfl (by kernel_rfl) (by kernel_rfl) (by kernel_rfl) (fun _ _ _ h => by obtain ⟨_, _, _, h, _⟩ := h; cases h) ⟨_, rfl, .inl ⟨_, rfl, rfl⟩⟩ rfl ?_
            refine GA.take 24 rfl (by kernel_rfl) (by kernel_rfl) (by kernel_rfl) (fun _ _ _ h => by obtain ⟨_, _, _, h, _⟩ := h; cases h) trivial rfl (OV.pickT (b := true) (v := .bool true) rfl rfl rfl) ?_
            refine GA.take 25 rfl (by kernel_rfl) (by kernel_rfl) (by kernel_rfl) (fun _ _ _ h => by obtain ⟨_, _, _, h, _⟩ := h; cases h) trivial rfl (OV.assign (v := .bool true) rfl) ?_
            refine GA.done (by kernel_rfl) ?_
            refine GL.nil ?_
            exact GC.ret (fun _ _ hf hs => post_tmp1 rfl rfl hf hs ⟨true, rfl, h⟩)
          · replace h := And.right h hc86
            obtain ⟨x87, hr88, h⟩ := h
            refine GA.take 4 rfl (by kernel_rfl) (by kernel_rfl) (by kernel_rfl) (fun _ _ _ h => by obtain ⟨_, _, _, h, _⟩ := h; cases h) ⟨_, _, rfl, rfl, hc86⟩ rfl (OV.loadT (p := (b1, 0)) (cs := T_api_Value.c x87) rfl rfl rfl hr88) ?_
            obtain ⟨x89, hr90, h⟩ := h
            refine GA.take 5 rfl (by kernel_rfl) (by kernel_rfl) (by kernel_rfl) (fun _ _ _ h => by obtain ⟨_, _, _, h, _⟩ := h; cases h) ⟨_, _, rfl, rfl, hc86⟩ rfl (OV.loadT (p := (b3, 0)) (cs := T_api_Value.c x89) rfl rfl rfl hr90) ?_
            refine GA.eff 6 rfl (by kernel_rfl) ?_
            refine GL.call h ⟨_, _, rfl, rfl, hc86⟩ rfl ok_ref02_Same (vs := [.agg (T_api_Value.c x87).toArray, .agg (T_api_Value.c x89).toArray]) rfl ?_
            rintro _ H93 ⟨r92, rfl, h⟩
            obtain ⟨hle91, h⟩ := h
            refine GA.back hle91 ?_
            refine GA.take 7 rfl (by kernel_rfl) (by kernel_rfl) (by kernel_rfl) (fun _ _ _ h => by obtain ⟨_, _, _, h, _⟩ := h; cases h) trivial rfl (OV.pickF (b := ((Sl.len r39 : Int) : Int) == 0) (v := .bool r92) rfl hc86 rfl) ?_
            refine GA.take 8 rfl (by kernel_rfl) (by kernel_rfl) (by kernel_rfl) (fun _ _ _ h => by obtain ⟨_, _, _, h, _⟩ := h; cases h) trivial rfl (OV.move (v := .bool r92) rfl) ?_
            rcases Bool.eq_false_or_eq_true r92 with hc94 | hc94
            · replace h := And.left h hc94
              refine GA.skip 9 rfl (by kernel_rfl) (by kernel_rfl) (by kernel_rfl) (fun _ _ _ h => by obtain ⟨_, _, _, h, _⟩ := h; cases h) ⟨_, rfl, .inl ⟨_, rfl, hc94⟩⟩ rfl ?_
              refine GA.skip 10 rfl (by kernel_rfl) (by kernel_rfl) (by kernel_rfl) (fun _ _ _ h => by obtain ⟨_, _, _, h, _⟩ := h; cases h) ⟨_, rfl, .inl ⟨_, rfl, hc94⟩⟩ rfl ?_
              refine GA.skip 11 rfl (by kernel_rfl) (by kernel_rfl) (by kernel_rfl) (fun _ _ _ h => by obtain ⟨_, _, _, h, _⟩ := h; cases h) ⟨_, rfl, .inl ⟨_, rfl, hc94⟩⟩ rfl ?_
              refine GA.skip 12 rfl (by kernel_rfl) (by kernel_rfl) (by kernel_rfl) (fun _ _ _ h => by obtain ⟨_, _, _, h, _⟩ := h; cases h) ⟨_, rfl, .inl ⟨_, rfl, hc94⟩⟩ rfl ?_
              refine GA.skip 13 rfl (by kernel_rfl) (by kernel_rfl) (by kernel_rfl) (fun _ _ _ h => by obtain ⟨_, _, _, h, _⟩ := h; cases h) ⟨_, rfl, .inl ⟨_, rfl, hc94⟩⟩ rfl ?_
              refine GA.take 14 rfl (by kernel_rfl) (by kernel_rfl) (by kernel_rfl) (fun _ _ _ h => by obtain ⟨_, _, _, h, _⟩ := h; cases h) trivial rfl (OV.pickT (b := r92) (v := .bool true) rfl hc94 rfl) ?_
              refine GA.take 15 rfl (by kernel_rfl) (by kernel_rfl) (by kernel_rfl) (fun _ _ _ h => by obtain ⟨_, _, _, h, _⟩ := h; cases h) trivial rfl (OV.move (v := .bool true) rfl) ?_
              refine GA.skip 16 rfl (by kernel_rfl) (by kernel_rfl) (by kernel_rfl) (fun _ _ _ h => by obtain ⟨_, _, _, h, _⟩ := h; cases h) ⟨_, rfl, .inl ⟨_, rfl, rfl⟩⟩ rfl ?_
              refine GA.skip 17 rfl (by kernel_rfl) (by kernel_rfl) (by kernel_rfl) (fun _ _ _ h => by obtain ⟨_, _, _, h, _⟩ := h; cases h) ⟨_, rfl, .inl ⟨_, rfl, rfl⟩⟩ rfl ?_
              refine GA.skip 18 rfl (by kernel_rfl) (by kernel_rfl) (by kernel_rfl) (fun _ _ _ h => by obtain ⟨_, _, _, h, _⟩ := h; cases h) ⟨_, rfl, .inl ⟨_, rfl, rfl⟩⟩ rfl ?_
              refine GA.skip 19 rfl (by kernel_rfl) (by kernel_rfl) (by kernel_rfl) (fun _ _ _ h => by obtain ⟨_, _, _, h, _⟩ := h; cases h) ⟨_, rfl, .inl ⟨_, rfl, rfl⟩⟩ rfl ?_
              refine GA.skip 20 rfl (by kernel_rfl) (by kernel_rfl) (by kernel_rfl) (fun _ _ _ h => by obtain ⟨_, _, _, h, _⟩ := h; cases h) ⟨_, rfl, .inl ⟨_, rfl, rfl⟩⟩ rfl ?_
              refine GA.skip 21 rfl (by kernel_rfl) (by kernel_rfl) (by kernel_rfl) (fun _ _ _ h => by obtain ⟨_, _, _, h, _⟩ := h; cases h) ⟨_, rfl, .inl ⟨_, rfl, rfl⟩⟩ rfl ?_
              refine GA.skip 22 rfl (by kernel_rfl) (by kernel_rfl) (by kernel_rfl) (fun _ _ _ h => by obtain ⟨_, _, _, h, _⟩ := h; cases h) ⟨_, rfl, .inl ⟨_, rfl, rfl⟩⟩ rfl ?_
              refine GA.skip 23 rfl (by kernel_rfl) (by kernel_rfl) (by kernel_rfl) (fun _ _ _ h => by obtain ⟨_, _, _, h, _⟩ := h; cases h) ⟨_, rfl, .inl ⟨_, rfl, rfl⟩⟩ rfl ?_
              refine GA.take 24 rfl (by kernel_rfl) (by kernel_rfl) (by kernel_rfl) (fun _ _ _ h => by obtain ⟨_, _, _, h, _⟩ := h; cases h) trivial rfl (OV.pickT (b := true) (v := .bool true) rfl rfl rfl) ?_
              refine GA.take 25 rfl (by kernel_rfl) (by kernel_rfl) (by kernel_rfl) (fun _ _ _ h => by obtain ⟨_, _, _, h, _⟩ := h; cases h) trivial rfl (OV.assign (v := .bool true) rfl) ?_
              refine GA.done (by kernel_rfl) ?_
              refine GL.nil ?_
              exact GC.ret (fun _ _ hf hs => post_tmp1 rfl rfl hf hs ⟨true, rfl, h⟩)
            · replace h := And.right h hc94
              refine GA.take 9 rfl (by kernel_rfl) (by kernel_rfl) (by kernel_rfl) (fun _ _ _ h => by obtain ⟨_, _, _, h, _⟩ := h; cases h) ⟨_, _, rfl, rfl, hc94⟩ rfl (OV.move (v := slv r39) rfl) ?_
              refine GA.take 10 rfl (by kernel_rfl) (by kernel_rfl) (by kernel_rfl) (fun _ _ _ h => by obtain ⟨_, _, _, h, _⟩ := h; cases h) ⟨_, _, rfl, rfl, hc94⟩ rfl (OV.lenSl (s := r39) rfl rfl) ?_
              refine GA.take 11 rfl (by kernel_rfl) (by kernel_rfl) (by kernel_rfl) (fun _ _ _ h => by obtain ⟨_, _, _, h, _⟩ := h; cases h) ⟨_, _, rfl, rfl, hc94⟩ rfl (OV.move (v := slv r36) rfl) ?_
              refine GA.take 12 rfl (by kernel_rfl) (by kernel_rfl) (by kernel_rfl) (fun _ _ _ h => by obtain ⟨_, _, _, h, _⟩ := h; cases h) ⟨_, _, rfl, rfl, hc94⟩ rfl (OV.lenSl (s := r36) rfl rfl) ?_
              refine GA.take 13 rfl (by kernel_rfl) (by kernel_rfl) (by kernel_rfl) (fun _ _ _ h => by obtain ⟨_, _, _, h, _⟩ := h; cases h) ⟨_, _, rfl, rfl, hc94⟩ rfl (OV.ibin (v := .bool (decide (((Sl.len r39 : Int) : Int) > (Sl.len r36 : Int)))) rfl rfl rfl) ?_
              refine GA.take 14 rfl (by kernel_rfl) (by kernel_rfl) (by kernel_rfl) (fun _ _ _ h => by obtain ⟨_, _, _, h, _⟩ := h; cases h) trivial rfl (OV.pickF (b := r92) (v := .bool (decide (((Sl.len r39 : Int) : Int) > (Sl.len r36 : Int)))) rfl hc94 rfl) ?_
              refine GA.take 15 rfl (by kernel_rfl) (by kernel_rfl) (by kernel_rfl) (fun _ _ _ h => by obtain ⟨_, _, _, h, _⟩ := h; cases h) trivial rfl (OV.move (v := .bool (decide (((Sl.len r39 : Int) : Int) > (Sl.len r36 : Int)))) rfl) ?_
              rcases Bool.eq_false_or_eq_true (decide (((Sl.len r39 : Int) : Int) > (Sl.len r36 : Int))) with hc95 | hc95
              · replace h := And.left h hc95
                refine GA.skip 16 rfl (by kernel_rfl) (by kernel_rfl) (by kernel_rfl) (fun _ _ _ h => by obtain ⟨_, _, _, h, _⟩ := h; cases h) ⟨_, rfl, .inl ⟨_, rfl, hc95⟩⟩ rfl ?_
                refine GA.skip 17 rfl (by kernel_rfl) (by kernel_rfl) (by kernel_rfl) (fun _ _ _ h => by obtain ⟨_, _, _, h, _⟩ := h; cases h) ⟨_, rfl, .inl ⟨_, rfl, hc95⟩⟩ rfl ?_
                refine GA.skip 18 rfl (by kernel_rfl) (by kernel_rfl) (by kernel_rfl) (fun _ _ _ h => by obtain ⟨_, _, _, h, _⟩ := h; cases h) ⟨_, rfl, .inl ⟨_, rfl, hc95⟩⟩ rfl ?_
                refine GA.skip 19 rfl (by kernel_rfl) (by kernel_rfl) (by kernel_rfl) (fun _ _ _ h => by obtain ⟨_, _, _, h, _⟩ := h; cases h) ⟨_, rfl, .inl ⟨_, rfl, hc95⟩⟩ rfl ?_
                refine GA.skip 20 rfl (by kernel_rfl) (by kernel_rfl) (by kernel_rfl) (fun _ _ _ h => by obtain ⟨_, _, _, h, _⟩ := h; cases h) ⟨_, rfl, .inl ⟨_, rfl, hc95⟩⟩ rfl ?_
                refine GA.skip 21 rfl (by kernel_rfl) (by kernel_rfl) (by kernel_rfl) (fun _ _ _ h => by obtain ⟨_, _, _, h, _⟩ := h; cases h) ⟨_, rfl, .inl ⟨_, rfl, hc95⟩⟩ rfl ?_
                refine GA.skip 22 rfl (by kernel_rfl) (by kernel_rfl) (by kernel_rfl) (fun _ _ _ h => by obtain ⟨_, _, _, h, _⟩ := h; cases h) ⟨_, rfl, .inl ⟨_, rfl, hc95⟩⟩ rfl ?_
                refine GA.skip 23 rfl (by kernel_rfl) (by kernel_rfl) (by kernel_rfl) (fun _ _ _ h => by obtain ⟨_, _, _, h, _⟩ := h; cases h) ⟨_, rfl, .inl ⟨_, rfl, hc95⟩⟩ rfl ?_
                refine GA.take 24 rfl (by kernel_rfl) (by kernel_rfl) (by kernel_rfl) (fun _ _ _ h => by obtain ⟨_, _, _, h, _⟩ := h; cases h) trivial rfl (OV.pickT (b := decide (((Sl.len r39 : Int) : Int) > (Sl.len r36 : Int))) (v := .bool true) rfl hc95 rfl) ?_
                refine GA.take 25 rfl (by kernel_rfl) (by kernel_rfl) (by kernel_rfl) (fun _ _ _ h => by obtain ⟨_, _, _, h, _⟩ := h; cases h) trivial rfl (OV.assign (v := .bool true) rfl) ?_
                refine GA.done (by kernel_rfl) ?_
                refine GL.nil ?_
                exact GC.ret (fun _ _ hf hs => post_tmp1 rfl rfl hf hs ⟨true, rfl, h⟩)
              · replace h := And.right h hc95
                refine GA.take 16 rfl (by kernel_rfl) (by kernel_rfl) (by kernel_rfl) (fun _ _ _ h => by obtain ⟨_, _, _, h, _⟩ := h; cases h) ⟨_, _, rfl, rfl, hc95⟩ rfl (OV.move (v := slv r36) rfl) ?_
                refine GA.take 17 rfl (by kernel_rfl) (by kernel_rfl) (by kernel_rfl) (fun _ _ _ h => by obtain ⟨_, _, _, h, _⟩ := h; cases h) ⟨_, _, rfl, rfl, hc95⟩ rfl (OV.move (v := slv r39) rfl) ?_
                refine GA.take 18 rfl (by kernel_rfl) (by kernel_rfl) (by kernel_rfl) (fun _ _ _ h => by obtain ⟨_, _, _, h, _⟩ := h; cases h) ⟨_, _, rfl, rfl, hc95⟩ rfl (OV.lenSl (s := r39) rfl rfl) ?_
                obtain ⟨h97, h98, h99, h100, t96, h101, h⟩ := h
                refine GA.take 19 rfl (by kernel_rfl) (by kernel_rfl) (by kernel_rfl) (fun _ _ _ h => by obtain ⟨_, _, _, h, _⟩ := h; cases h) ⟨_, _, rfl, rfl, hc95⟩ rfl (OV.sliceSl (s := r36) h97 h98 h99 h100 h101 rfl rfl rfl rfl rfl rfl rfl (fun h => by first | rfl | cases h) rfl rfl) ?_
                obtain ⟨t102, h103, h104, h⟩ := h
                refine GA.take 20 rfl (by kernel_rfl) (by kernel_rfl) (by kernel_rfl) (fun _ _ _ h => by obtain ⟨_, _, _, h, _⟩ := h; cases h) ⟨_, _, rfl, rfl, hc95⟩ rfl (OV.b2s (b := t96) (s := t102) h103 h104 rfl rfl rfl rfl) ?_
                refine GA.take 21 rfl (by kernel_rfl) (by kernel_rfl) (by kernel_rfl) (fun _ _ _ h => by obtain ⟨_, _, _, h, _⟩ := h; cases h) ⟨_, _, rfl, rfl, hc95⟩ rfl (OV.move (v := slv r39) rfl) ?_
                obtain ⟨t105, h106, h107, h⟩ := h
                refine GA.take 22 rfl (by kernel_rfl) (by kernel_rfl) (by kernel_rfl) (fun _ _ _ h => by obtain ⟨_, _, _, h, _⟩ := h; cases h) ⟨_, _, rfl, rfl, hc95⟩ rfl (OV.b2s (b := r39) (s := t105) h106 h107 rfl rfl rfl rfl) ?_
                refine GA.take 23 rfl (by kernel_rfl) (by kernel_rfl) (by kernel_rfl) (fun _ _ _ h => by obtain ⟨_, _, _, h, _⟩ := h; cases h) ⟨_, _, rfl, rfl, hc95⟩ rfl (OV.sbin (a := t102) (b := t105) (v := .bool (!(t102 == t105))) rfl rfl rfl) ?_
                refine GA.take 24 rfl (by kernel_rfl) (by kernel_rfl) (by kernel_rfl) (fun _ _ _ h => by obtain ⟨_, _, _, h, _⟩ := h; cases h) trivial rfl (OV.pickF (b := decide (((Sl.len r39 : Int) : Int) > (Sl.len r36 : Int))) (v := .bool (!(t102 == t105))) rfl hc95 rfl) ?_
                refine GA.take 25 rfl (by kernel_rfl) (by kernel_rfl) (by kernel_rfl) (fun _ _ _ h => by obtain ⟨_, _, _, h, _⟩ := h; cases h) trivial rfl (OV.assign (v := .bool (!(t102 == t105))) rfl) ?_
                refine GA.done (by kernel_rfl) ?_
                refine GL.nil ?_
                exact GC.ret (fun _ _ hf hs => post_tmp1 rfl rfl hf hs ⟨(!(t102 == t105)), rfl, h⟩)

def sh_law03_CodeAmong (C : Ctx) (p_b : Sl) (p_v : T_api_Value) (K : Bool → Heap → Prop) (H : Heap) : Prop :=
  nw (T_api_Value.c p_v) (fun b1 H2 =>
 ldT H2 T_api_Value.c (b1, 0) fun x3 =>
 c_law03_wide C x3 (fun r5 H6 =>
 jn (α := Bool) (fun b8 H14 =>
 ift b8
 (c_law03_works C (fun r16 H17 =>
 K r16 H17) H14)
 (c_code_NewReader C p_b (fun r18 H19 =>
 c_code_Reader_Value C r18 (fun r20 H21 =>
 nw (T_api_Value.c T_api_Value.zero) (fun b22 H23 =>
 stT (b22, 0) (T_api_Value.c r20) (fun H24 =>
 c_code_Reader_OK C r18 (fun r25 H26 =>
 ift (!r25)
 (ldT H26 T_api_Value.c (b22, 0) fun x28 =>
 c_ref02_Same C x28 (⟨0, 0, [], Sl.nil⟩ : T_api_Value) (fun r30 H31 =>
 K r30 H31) H26)
 (ldT H26 T_api_Value.c (b1, 0) fun x32 =>
 c_code_Value C Sl.nil x32 (fun r34 H35 =>
 dr H35 fun Hs36 =>
 ldT Hs36 T_api_Value.c (b22, 0) fun x38 =>
 c_ref02_Check C x38 (fun r41 H42 =>
 Heap.le Hs36 H42 ∧
 ift ((r41 : Int) == 0)
 (ift (((Sl.len r34 : Int) : Int) == 0)
 (K true H42)
 (ldT Hs36 T_api_Value.c (b22, 0) fun x45 =>
 ldT Hs36 T_api_Value.c (b1, 0) fun x47 =>
 c_code_Reader_Left C r18 (fun r50 H51 =>
 Heap.le Hs36 H51 ∧
 slL p_b 0 (w .i64 ((Sl.len p_b : Int) - r50)) (Sl.cap p_b : Int) 1 fun t52 =>
 c_law03_stands C t52 r34 (fun r59 H60 =>
 Heap.le Hs36 H60 ∧
 c_ref02_Cmp C x45 x47 (fun r62 H63 =>
 Heap.le Hs36 H63 ∧
 K ((r59 : Int) == r62) H63) H60) H51) H42))
 (K false H42)) H35) H26)) H24) H23) H21) H19) H14))
 (fun J9 => ift (r5 || (decide (((Sl.len p_b : Int) : Int) > 3000)))
 (J9 true H6)
 (c_law03_works C (fun r12 H13 =>
 J9 (!r12) H13) H6))) H2) H

theorem ad_law03_CodeAmong (C : Ctx) (p_b : Sl) (p_v : T_api_Value) (K : Bool → Heap → Prop) (H : Heap) (h : sh_law03_CodeAmong C p_b p_v K H) : c_law03_CodeAmong C p_b p_v K H := by
  refine Spec.enter Tryd.func9 rfl Tryd.ntmps9 rfl ?_
  refine GC.sub [(0, slv p_b), (1, .agg (T_api_Value.c p_v).toArray)] ⟨rfl, rfl, trivial⟩ ?_
  refine GC.seq ?_
  refine GC.region ?_
  refine GL.box (v := .agg (T_api_Value.c p_v).toArray) (cs := T_api_Value.c p_v) h trivial rfl rfl rfl ?_
  intro b1 H2 h
  refine GL.val trivial rfl (OV.assign (v := .bool false) rfl) ?_
  refine GL.nil ?_
  refine GC.seq ?_
  refine GC.seq ?_
  refine GC.region ?_
  obtain ⟨x3, hr4, h⟩ := h
  refine GL.val trivial rfl (OV.loadT (p := (b1, 0)) (cs := T_api_Value.c x3) rfl rfl rfl hr4) ?_
  refine GL.call h trivial rfl ok_law03_wide (vs := [.agg (T_api_Value.c x3).toArray]) rfl ?_
  rintro _ H6 ⟨r5, rfl, h⟩
  refine GL.val trivial rfl (OV.move (v := .bool r5) rfl) ?_
  refine GL.cut0 4 [(14, .bool (r5 || (decide (((Sl.len p_b : Int) : Int) > 3000)))), (0, slv p_b), (3, pv (some (b1, 0)))] ?_ ?_
  · rcases Bool.eq_false_or_eq_true r5 with hc7 | hc7
    · skip
      refine GL.skip ⟨_, rfl, .inl ⟨_, rfl, hc7⟩⟩ rfl ?_
      refine GL.skip ⟨_, rfl, .inl ⟨_, rfl, hc7⟩⟩ rfl ?_
      refine GL.skip ⟨_, rfl, .inl ⟨_, rfl, hc7⟩⟩ rfl ?_
      refine GL.val trivial rfl (OV.pickT (b := r5) (v := .bool true) rfl hc7 rfl) ?_
      exact GL.jump0 (fun _ _ h => h) () rfl ⟨(by rw [hc7]; rfl), rfl, rfl, trivial⟩
    · skip
      refine GL.val ⟨_, _, rfl, rfl, hc7⟩ rfl (OV.move (v := slv p_b) rfl) ?_
      refine GL.val ⟨_, _, rfl, rfl, hc7⟩ rfl (OV.lenSl (s := p_b) rfl rfl) ?_
      refine GL.val ⟨_, _, rfl, rfl, hc7⟩ rfl (OV.ibin (v := .bool (decide (((Sl.len p_b : Int) : Int) > 3000))) rfl rfl rfl) ?_
      refine GL.val trivial rfl (OV.pickF (b := r5) (v := .bool (decide (((Sl.len p_b : Int) : Int) > 3000))) rfl hc7 rfl) ?_
      exact GL.jump0 (fun _ _ h => h) () rfl ⟨(by rw [hc7]; rfl), rfl, rfl, trivial⟩
  refine GL.val trivial rfl (OV.move (v := .bool (r5 || (decide (((Sl.len p_b : Int) : Int) > 3000)))) rfl) ?_
  obtain ⟨J9, h, hR10⟩ := h
  refine GL.cut (α := Bool) 3 J9 (fun b8 => [(18, .bool b8), (0, slv p_b), (3, pv (some (b1, 0)))]) ?_ ?_
  · rcases Bool.eq_false_or_eq_true (r5 || (decide (((Sl.len p_b : Int) : Int) > 3000))) with hc11 | hc11
    · skip
      replace h := And.left h hc11
      refine GL.skip ⟨_, rfl, .inl ⟨_, rfl, hc11⟩⟩ rfl ?_
      refine GL.skip ⟨_, rfl, .inl ⟨_, rfl, hc11⟩⟩ rfl ?_
      refine GL.val trivial rfl (OV.pickT (b := r5 || (decide (((Sl.len p_b : Int) : Int) > 3000))) (v := .bool true) rfl hc11 rfl) ?_
      exact GL.jump (fun _ _ h => h) true h ⟨rfl, rfl, rfl, trivial⟩
    · skip
      replace h := And.right h hc11
      refine GL.call h ⟨_, _, rfl, rfl, hc11⟩ rfl ok_law03_works (vs := []) rfl ?_
      rintro _ H13 ⟨r12, rfl, h⟩
      refine GL.val ⟨_, _, rfl, rfl, hc11⟩ rfl (OV.not rfl) ?_
      refine GL.val trivial rfl (OV.pickF (b := r5 || (decide (((Sl.len p_b : Int) : Int) > 3000))) (v := .bool (!r12)) rfl hc11 rfl) ?_
      exact GL.jump (fun _ _ h => h) (!r12) h ⟨rfl, rfl, rfl, trivial⟩
  intro b8 H14 h
  replace h := hR10 b8 H14 h
  refine GL.nil ?_
  refine GC.cond (b := b8) rfl (fun hc15 => ?_) (fun hc15 => ?_)
  · replace h := And.left h hc15
    refine GC.seq ?_
    refine GC.region ?_
    refine GL.call h trivial rfl ok_law03_works (vs := []) rfl ?_
    rintro _ H17 ⟨r16, rfl, h⟩
    refine GL.val trivial rfl (OV.assign (v := .bool r16) rfl) ?_
    refine GL.nil ?_
    exact GC.ret (fun _ _ hf hs => post_tmp1 rfl rfl hf hs ⟨r16, rfl, h⟩)
  · replace h := And.right h hc15
    refine GC.skip ?_
    refine GC.seq ?_
    refine GC.region ?_
    refine GL.val trivial rfl (OV.move (v := slv p_b) rfl) ?_
    refine GL.call h trivial rfl ok_code_NewReader (vs := [slv p_b]) rfl ?_
    rintro _ H19 ⟨r18, rfl, h⟩
    refine GL.val trivial rfl (OV.assign (v := pv r18) rfl) ?_
    refine GL.nil ?_
    refine GC.seq ?_
    refine GC.region ?_
    refine GL.val trivial rfl (OV.move (v := pv r18) rfl) ?_
    refine GL.call h trivial rfl ok_code_Reader_Value (vs := [pv r18]) rfl ?_
    rintro _ H21 ⟨r20, rfl, h⟩
    refine GL.alloc (cs := T_api_Value.c T_api_Value.zero) h trivial rfl rfl rfl ?_
    intro b22 H23 h
    refine GL.storeT (p := (b22, 0)) (vs := T_api_Value.c r20) h trivial rfl rfl rfl rfl ?_
    intro H24 h
    refine GL.nil ?_
    refine GC.seq ?_
    refine GC.seq ?_
    refine GC.region ?_
    refine GL.val trivial rfl (OV.move (v := pv r18) rfl) ?_
    refine GL.call h trivial rfl ok_code_Reader_OK (vs := [pv r18]) rfl ?_
    rintro _ H26 ⟨r25, rfl, h⟩
    refine GL.val trivial rfl (OV.not rfl) ?_
    refine GL.nil ?_
    refine GC.cond (b := !r25) rfl (fun hc27 => ?_) (fun hc27 => ?_)
    · replace h := And.left h hc27
      refine GC.seq ?_
      refine GC.region ?_
      obtain ⟨x28, hr29, h⟩ := h
      refine GL.val trivial rfl (OV.loadT (p := (b22, 0)) (cs := T_api_Value.c x28) rfl rfl rfl hr29) ?_
      refine GL.val trivial rfl (OV.build (vs := []) (v := .agg (T_api_Value.c (⟨0, 0, [], Sl.nil⟩ : T_api_Value)).toArray) rfl (fun _ => by kernel_rfl)) ?_
      refine GL.call h trivial rfl ok_ref02_Same (vs := [.agg (T_api_Value.c x28).toArray, .agg (T_api_Value.c (⟨0, 0, [], Sl.nil⟩ : T_api_Value)).toArray]) rfl ?_
      rintro _ H31 ⟨r30, rfl, h⟩
      refine GL.val trivial rfl (OV.assign (v := .bool r30) rfl) ?_
      refine GL.nil ?_
      exact GC.ret (fun _ _ hf hs => post_tmp1 rfl rfl hf hs ⟨r30, rfl, h⟩)
    · replace h := And.right h hc27
      refine GC.skip ?_
      refine GC.seq ?_
      refine GC.region ?_
      obtain ⟨x32, hr33, h⟩ := h
      refine GL.val trivial rfl (OV.loadT (p := (b1, 0)) (cs := T_api_Value.c x32) rfl rfl rfl hr33) ?_
      refine GL.call h trivial rfl ok_code_Value (vs := [slv Sl.nil, .agg (T_api_Value.c x32).toArray]) rfl ?_
      rintro _ H35 ⟨r34, rfl, h⟩
      refine GL.val trivial rfl (OV.assign (v := slv r34) rfl) ?_
      refine GL.nil ?_
      refine GC.seq ?_
      obtain ⟨Hs36, hle37, h⟩ := h
      refine GC.any (Hs := Hs36) (by kernel_rfl) hle37 ?_
      obtain ⟨x38, hr39, h⟩ := h
      refine GA.take 0 rfl (by kernel_rfl) (by kernel_rfl) (by kernel_rfl) (fun _ _ _ h => by obtain ⟨_, _, _, h, _⟩ := h; cases h) trivial rfl (OV.loadT (p := (b22, 0)) (cs := T_api_Value.c x38) rfl rfl rfl hr39) ?_
      refine GA.eff 1 rfl (by kernel_rfl) ?_
      refine GL.call h trivial rfl ok_ref02_Check (vs := [.agg (T_api_Value.c x38).toArray]) rfl ?_
      rintro _ H42 ⟨r41, rfl, h⟩
      obtain ⟨hle40, h⟩ := h
      refine GA.back hle40 ?_
      refine GA.take 2 rfl (by kernel_rfl) (by kernel_rfl) (by kernel_rfl) (fun _ _ _ h => by obtain ⟨_, _, _, h, _⟩ := h; cases h) trivial rfl (OV.ibin (v := .bool ((r41 : Int) == 0)) rfl rfl rfl) ?_
      refine GA.take 3 rfl (by kernel_rfl) (by kernel_rfl) (by kernel_rfl) (fun _ _ _ h => by obtain ⟨_, _, _, h, _⟩ := h; cases h) trivial rfl (OV.move (v := .bool ((r41 : Int) == 0)) rfl) ?_
      rcases Bool.eq_false_or_eq_true ((r41 : Int) == 0) with hc43 | hc43
      · replace h := And.left h hc43
        refine GA.take 4 rfl (by kernel_rfl) (by kernel_rfl) (by kernel_rfl) (fun _ _ _ h => by obtain ⟨_, _, _, h, _⟩ := h; cases h) ⟨_, _, rfl, rfl, hc43⟩ rfl (OV.move (v := slv r34) rfl) ?_
        refine GA.take 5 rfl (by kernel_rfl) (by kernel_rfl) (by kernel_rfl) (fun _ _ _ h => by obtain ⟨_, _, _, h, _⟩ := h; cases h) ⟨_, _, rfl, rfl, hc43⟩ rfl (OV.lenSl (s := r34) rfl rfl) ?_
        refine GA.take 6 rfl (by kernel_rfl) (by kernel_rfl) (by kernel_rfl) (fun _ _ _ h => by obtain ⟨_, _, _, h, _⟩ := h; cases h) ⟨_, _, rfl, rfl, hc43⟩ rfl (OV.ibin (v := .bool (((Sl.len r34 : Int) : Int) == 0)) rfl rfl rfl) ?_
        refine GA.take 7 rfl (by kernel_rfl) (by kernel_rfl) (by kernel_rfl) (fun _ _ _ h => by obtain ⟨_, _, _, h, _⟩ := h; cases h) ⟨_, _, rfl, rfl, hc43⟩ rfl (OV.move (v := .bool (((Sl.len r34 : Int) : Int) == 0)) rfl) ?_
        rcases Bool.eq_false_or_eq_true (((Sl.len r34 : Int) : Int) == 0) with hc44 | hc44
        · replace h := And.left h hc44
          refine GA.skip 8 rfl (by kernel_rfl) (by kernel_rfl) (by kernel_rfl) (fun _ _ _ h => by obtain ⟨_, _, _, h, _⟩ := h; cases h) ⟨_, rfl, .inl ⟨_, rfl, hc44⟩⟩ rfl ?_
          refine GA.skip 9 rfl (by kernel_rfl) (by kernel_rfl) (by kernel_rfl) (fun _ _ _ h => by obtain ⟨_, _, _, h, _⟩ := h; cases h) ⟨_, rfl, .inl ⟨_, rfl, hc44⟩⟩ rfl ?_
          refine GA.skip 10 rfl (by kernel_rfl) (by kernel_rfl) (by kernel_rfl) (fun _ _ _ h => by obtain ⟨_, _, _, h, _⟩ := h; cases h) ⟨_, rfl, .inl ⟨_, rfl, hc44⟩⟩ rfl ?_
          refine GA.skip 11 rfl (by kernel_rfl) (by kernel_rfl) (by kernel_rfl) (fun _ _ _ h => by obtain ⟨_, _, _, h, _⟩ := h; cases h) ⟨_, rfl, .inl ⟨_, rfl, hc44⟩⟩ rfl ?_
          refine GA.skip 12 rfl (by kernel_rfl) (by kernel_rfl) (by kernel_rfl) (fun _ _ _ h => by obtain ⟨_, _, _, h, _⟩ := h; cases h) ⟨_, rfl, .inl ⟨_, rfl, hc44⟩⟩ rfl ?_
          refine GA.skip 13 rfl (by kernel_rfl) (by kernel_rfl) (by kernel_rfl) (fun _ _ _ h => by obtain ⟨_, _, _, h, _⟩ := h; cases h) ⟨_, rfl, .inl ⟨_, rfl, hc44⟩⟩ rfl ?_
          refine GA.skip 14 rfl (by kernel_rfl) (by kernel_rfl) (by kernel_rfl) (fun _ _ _ h => by obtain ⟨_, _, _, h, _⟩ := h; cases h) ⟨_, rfl, .inl ⟨_, rfl, hc44⟩⟩ rfl ?_
          refine GA.skip 15 rfl (by kernel_rfl) (by kernel_rfl) (by kernel_rfl) (fun _ _ _ h => by obtain ⟨_, _, _, h, _⟩ := h; cases h) ⟨_, rfl, .inl ⟨_, rfl, hc44⟩⟩ rfl ?_
          refine GA.skip 16 rfl (by kernel_rfl) (by kernel_rfl) (by kernel_rfl) (fun _ _ _ h => by obtain ⟨_, _, _, h, _⟩ := h; cases h) ⟨_, rfl, .inl ⟨_, rfl, hc44⟩⟩ rfl ?_
          refine GA.skip 17 rfl (by kernel_rfl) (by kernel_rfl) (by kernel_rfl) (fun _ _ _ h => by obtain ⟨_, _, _, h, _⟩ := h; cases h) ⟨_, rfl, .inl ⟨_, rfl, hc44⟩⟩ rfl ?_
          refine GA.skip 18 rfl (by kernel_rfl) (by kernel_rfl) (by kernel_rfl) (fun _ _ _ h => by obtain ⟨_, _, _, h, _⟩ := h; cases h) ⟨_, rfl, .inl ⟨_, rfl, hc44⟩⟩ rfl ?_
          refine GA.skip 19 rfl (by kernel_rfl) (by kernel_rfl) (by kernel_rfl) (fun _ _ _ h => by obtain ⟨_, _, _, h, _⟩ := h; cases h) ⟨_, rfl, .inl ⟨_, rfl, hc44⟩⟩ rfl ?_
          refine GA.skip 20 rfl (by kernel_rfl) (by kernel_rfl) (by kernel_rfl) (fun _ _ _ h => by obtain ⟨_, _, _, h, _⟩ := h; cases h) ⟨_, rfl, .inl ⟨_, rfl, hc44⟩⟩ rfl ?_
          refine GA.take 21 rfl (by kernel_rfl) (by kernel_rfl) (by kernel_rfl) (fun _ _ _ h => by obtain ⟨_, _, _, h, _⟩ := h; cases h) ⟨_, _, rfl, rfl, hc43⟩ rfl (OV.pickT (b := ((Sl.len r34 : Int) : Int) == 0) (v := .bool true) rfl hc44 rfl) ?_
          refine GA.take 22 rfl (by kernel_rfl) (by kernel_rfl) (by kernel_rfl) (fun _ _ _ h => by obtain ⟨_, _, _, h, _⟩ := h; cases h) trivial rfl (OV.pickT (b := (r41 : Int) == 0) (v := .bool true) rfl hc43 rfl) ?_
          refine GA.take 23 rfl (by kernel_rfl) (by kernel_rfl) (by kernel_rfl) (fun _ _ _ h => by obtain ⟨_, _, _, h, _⟩ := h; cases h) trivial rfl (OV.assign (v := .bool true) rfl) ?_
          refine GA.done (by kernel_rfl) ?_
          refine GL.nil ?_
          exact GC.ret (fun _ _ hf hs => post_tmp1 rfl rfl hf hs ⟨true, rfl, h⟩)
        · replace h := And.right h hc44
          refine GA.take 8 rfl (by kernel_rfl) (by kernel_rfl) (by kernel_rfl) (fun _ _ _ h => by obtain ⟨_, _, _, h, _⟩ := h; cases h) ⟨_, _, rfl, rfl, hc44⟩ rfl (OV.move (v := slv p_b) rfl) ?_
          refine GA.take 9 rfl (by kernel_rfl) (by kernel_rfl) (by kernel_rfl) (fun _ _ _ h => by obtain ⟨_, _, _, h, _⟩ := h; cases h) ⟨_, _, rfl, rfl, hc44⟩ rfl (OV.move (v := slv p_b) rfl) ?_
          refine GA.take 10 rfl (by kernel_rfl) (by kernel_rfl) (by kernel_rfl) (fun _ _ _ h => by obtain ⟨_, _, _, h, _⟩ := h; cases h) ⟨_, _, rfl, rfl, hc44⟩ rfl (OV.lenSl (s := p_b) rfl rfl) ?_
          refine GA.take 11 rfl (by kernel_rfl) (by kernel_rfl) (by kernel_rfl) (fun _ _ _ h => by obtain ⟨_, _, _, h, _⟩ := h; cases h) ⟨_, _, rfl, rfl, hc44⟩ rfl (OV.move (v := pv r18) rfl) ?_
          refine GA.take 15 rfl (by kernel_rfl) (by kernel_rfl) (by kernel_rfl) (fun _ _ _ h => by obtain ⟨_, _, _, h, _⟩ := h; cases h) ⟨_, _, rfl, rfl, hc44⟩ rfl (OV.move (v := slv r34) rfl) ?_
          obtain ⟨x45, hr46, h⟩ := h
          refine GA.take 17 rfl (by kernel_rfl) (by kernel_rfl) (by kernel_rfl) (fun _ _ _ h => by obtain ⟨_, _, _, h, _⟩ := h; cases h) ⟨_, _, rfl, rfl, hc44⟩ rfl (OV.loadT (p := (b22, 0)) (cs := T_api_Value.c x45) rfl rfl rfl hr46) ?_
          obtain ⟨x47, hr48, h⟩ := h
          refine GA.take 18 rfl (by kernel_rfl) (by kernel_rfl) (by kernel_rfl) (fun _ _ _ h => by obtain ⟨_, _, _, h, _⟩ := h; cases h) ⟨_, _, rfl, rfl, hc44⟩ rfl (OV.loadT (p := (b1, 0)) (cs := T_api_Value.c x47) rfl rfl rfl hr48) ?_
          refine GA.eff 12 rfl (by kernel_rfl) ?_
          refine GL.call h ⟨_, _, rfl, rfl, hc44⟩ rfl ok_code_Reader_Left (vs := [pv r18]) rfl ?_
          rintro _ H51 ⟨r50, rfl, h⟩
          obtain ⟨hle49, h⟩ := h
          refine GA.back hle49 ?_
          refine GA.take 13 rfl (by kernel_rfl) (by kernel_rfl) (by kernel_rfl) (fun _ _ _ h => by obtain ⟨_, _, _, h, _⟩ := h; cases h) ⟨_, _, rfl, rfl, hc44⟩ rfl (OV.ibin (v := .int .i64 (w .i64 ((Sl.len p_b : Int) - r50))) rfl rfl rfl) ?_
          obtain ⟨h53, h54, h55, h56, t52, h57, h⟩ := h
          refine GA.take 14 rfl (by kernel_rfl) (by kernel_rfl) (by kernel_rfl) (fun _ _ _ h => by obtain ⟨_, _, _, h, _⟩ := h; cases h) ⟨_, _, rfl, rfl, hc44⟩ rfl (OV.sliceSl (s := p_b) h53 h54 h55 h56 h57 rfl rfl rfl rfl rfl rfl rfl (fun h => by first | rfl | cases h) rfl rfl) ?_
          refine GA.eff 16 rfl (by kernel_rfl) ?_
          refine GL.call h ⟨_, _, rfl, rfl, hc44⟩ rfl ok_law03_stands (vs := [slv t52, slv r34]) rfl ?_
          rintro _ H60 ⟨r59, rfl, h⟩
          obtain ⟨hle58, h⟩ := h
          refine GA.back hle58 ?_
          refine GA.eff 19 rfl (by kernel_rfl) ?_
          refine GL.call h ⟨_, _, rfl, rfl, hc44⟩ rfl ok_ref02_Cmp (vs := [.agg (T_api_Value.c x45).toArray, .agg (T_api_Value.c x47).toArray]) rfl ?_
          rintro _ H63 ⟨r62, rfl, h⟩
          obtain ⟨hle61, h⟩ := h
          refine GA.back hle61 ?_
          refine GA.take 20 rfl (by kernel_rfl) (by kernel_rfl) (by kernel_rfl) (fun _ _ _ h => by obtain ⟨_, _, _, h, _⟩ := h; cases h) ⟨_, _, rfl, rfl, hc44⟩ rfl (OV.ibin (v := .bool ((r59 : Int) == r62)) rfl rfl rfl) ?_
          refine GA.take 21 rfl (by kernel_rfl) (by kernel_rfl) (by kernel_rfl) (fun _ _ _ h => by obtain ⟨_, _, _, h, _⟩ := h; cases h) ⟨_, _, rfl, rfl, hc43⟩ rfl (OV.pickF (b := ((Sl.len r34 : Int) : Int) == 0) (v := .bool ((r59 : Int) == r62)) rfl hc44 rfl) ?_
          refine GA.take 22 rfl (by kernel_rfl) (by kernel_rfl) (by kernel_rfl) (fun _ _ _ h => by obtain ⟨_, _, _, h, _⟩ := h; cases h) trivial rfl (OV.pickT (b := (r41 : Int) == 0) (v := .bool ((r59 : Int) == r62)) rfl hc43 rfl) ?_
          refine GA.take 23 rfl (by kernel_rfl) (by kernel_rfl) (by kernel_rfl) (fun _ _ _ h => by obtain ⟨_, _, _, h, _⟩ := h; cases h) trivial rfl (OV.assign (v := .bool ((r59 : Int) == r62)) rfl) ?_
          refine GA.done (by kernel_rfl) ?_
          refine GL.nil ?_
          exact GC.ret (fun _ _ hf hs => post_tmp1 rfl rfl hf hs ⟨((r59 : Int) == r62), rfl, h⟩)
      · replace h := And.right h hc43
        refine GA.skip 4 rfl (by kernel_rfl) (by kernel_rfl) (by kernel_rfl) (fun _ _ _ h => by obtain ⟨_, _, _, h, _⟩ := h; cases h) ⟨_, rfl, .inl ⟨_, rfl, hc43⟩⟩ rfl ?_
        refine GA.skip 5 rfl (by kernel_rfl) (by kernel_rfl) (by kernel_rfl) (fun _ _ _ h => by obtain ⟨_, _, _, h, _⟩ := h; cases h) ⟨_, rfl, .inl ⟨_, rfl, hc43⟩⟩ rfl ?_
        refine GA.skip 6 rfl (by kernel_rfl) (by kernel_rfl) (by kernel_rfl) (fun _ _ _ h => by obtain ⟨_, _, _, h, _⟩ := h; cases h) ⟨_, rfl, .inl ⟨_, rfl, hc43⟩⟩ rfl ?_
        refine GA.skip 7 rfl (by kernel_rfl) (by kernel_rfl) (by kernel_rfl) (fun _ _ _ h => by obtain ⟨_, _, _, h, _⟩ := h; cases h) ⟨_, rfl, .inl ⟨_, rfl, hc43⟩⟩ rfl ?_
        refine GA.skip 8 rfl (by kernel_rfl) (by kernel_rfl) (by kernel_rfl) (fun _ _ _ h => by obtain ⟨_, _, _, h, _⟩ := h; cases h) ⟨_, rfl, .inr rfl⟩ rfl ?_
        refine GA.skip 9 rfl (by kernel_rfl) (by kernel_rfl) (by kernel_rfl) (fun _ _ _ h => by obtain ⟨_, _, _, h, _⟩ := h; cases h) ⟨_, rfl, .inr rfl⟩ rfl ?_
        refine GA.skip 10 rfl (by kernel_rfl) (by kernel_rfl) (by kernel_rfl) (fun _ _ _ h => by obtain ⟨_, _, _, h, _⟩ := h; cases h) ⟨_, rfl, .inr rfl⟩ rfl ?_
        refine GA.skip 11 rfl (by kernel_rfl) (by kernel_rfl) (by kernel_rfl) (fun _ _ _ h => by obtain ⟨_, _, _, h, _⟩ := h; cases h) ⟨_, rfl, .inr rfl⟩ rfl ?_
        refine GA.skip 12 rfl (by kernel_rfl) (by kernel_rfl) (by kernel_rfl) (fun _ _ _ h => by obtain ⟨_, _, _, h, _⟩ := h; cases h) ⟨_, rfl, .inr rfl⟩ rfl ?_
        refine GA.skip 13 rfl (by kernel_rfl) (by kernel_rfl) (by kernel_rfl) (fun _ _ _ h => by obtain ⟨_, _, _, h, _⟩ := h; cases h) ⟨_, rfl, .inr rfl⟩ rfl ?_
        refine GA.skip 14 rfl (by kernel_rfl) (by kernel_rfl) (by kernel_rfl) (fun _ _ _ h => by obtain ⟨_, _, _, h, _⟩ := h; cases h) ⟨_, rfl, .inr rfl⟩ rfl ?_
        refine GA.skip 15 rfl (by kernel_rfl) (by kernel_rfl) (by kernel_rfl) (fun _ _ _ h => by obtain ⟨_, _, _, h, _⟩ := h; cases h) ⟨_, rfl, .inr rfl⟩ rfl ?_
        refine GA.skip 16 rfl (by kernel_rfl) (by kernel_rfl) (by kernel_rfl) (fun _ _ _ h => by obtain ⟨_, _, _, h, _⟩ := h; cases h) ⟨_, rfl, .inr rfl⟩ rfl ?_
        refine GA.skip 17 rfl (by kernel_rfl) (by kernel_rfl) (by kernel_rfl) (fun _ _ _ h => by obtain ⟨_, _, _, h, _⟩ := h; cases h) ⟨_, rfl, .inr rfl⟩ rfl ?_
        refine GA.skip 18 rfl (by kernel_rfl) (by kernel_rfl) (by kernel_rfl) (fun _ _ _ h => by obtain ⟨_, _, _, h, _⟩ := h; cases h) ⟨_, rfl, .inr rfl⟩ rfl ?_
        refine GA.skip 19 rfl (by kernel_rfl) (by kernel_rfl) (by kernel_rfl) (fun _ _ _ h => by obtain ⟨_, _, _, h, _⟩ := h; cases h) ⟨_, rfl, .inr rfl⟩ rfl ?_
        refine GA.skip 20 rfl (by kernel_rfl) (by kernel_rfl) (by kernel_rfl) (fun _ _ _ h => by obtain ⟨_, _, _, h, _⟩ := h; cases h) ⟨_, rfl, .inr rfl⟩ rfl ?_
        refine GA.skip 21 rfl (by kernel_rfl) (by kernel_rfl) (by kernel_rfl) (fun _ _ _ h => by obtain ⟨_, _, _, h, _⟩ := h; cases h) ⟨_, rfl, .inl ⟨_, rfl, hc43⟩⟩ rfl ?_
        refine GA.take 22 rfl (by kernel_rfl) (by kernel_rfl) (by kernel_rfl) (fun _ _ _ h => by obtain ⟨_, _, _, h, _⟩ := h; cases h) trivial rfl (OV.pickF (b := (r41 : Int) == 0) (v := .bool false) rfl hc43 rfl) ?_
        refine GA.take 23 rfl (by kernel_rfl) (by kernel_rfl) (by kernel_rfl) (fun _ _ _ h => by obtain ⟨_, _, _, h, _⟩ := h; cases h) trivial rfl (OV.assign (v := .bool false) rfl) ?_
        refine GA.done (by kernel_rfl) ?_
        refine GL.nil ?_
        exact GC.ret (fun _ _ hf hs => post_tmp1 rfl rfl hf hs ⟨false, rfl, h⟩)

def sh_law03_wide (C : Ctx) (p_v : T_api_Value) (K : Bool → Heap → Prop) (H : Heap) : Prop :=
  nw (T_api_Value.c p_v) (fun b1 H2 =>
 ldT H2 T_api_Value.c (b1, 0) fun x3 =>
 c_law03_parts C x3 (fun r5 H6 =>
 K (decide ((r5 : Int) > 2000)) H6) H2) H

theorem ad_law03_wide (C : Ctx) (p_v : T_api_Value) (K : Bool → Heap → Prop) (H : Heap) (h : sh_law03_wide C p_v K H) : c_law03_wide C p_v K H := by
  refine Spec.enter Tryd.func10 rfl Tryd.ntmps10 rfl ?_
  refine GC.sub [(0, .agg (T_api_Value.c p_v).toArray)] ⟨rfl, trivial⟩ ?_
  refine GC.seq ?_
  refine GC.region ?_
  refine GL.box (v := .agg (T_api_Value.c p_v).toArray) (cs := T_api_Value.c p_v) h trivial rfl rfl rfl ?_
  intro b1 H2 h
  refine GL.val trivial rfl (OV.assign (v := .bool false) rfl) ?_
  refine GL.nil ?_
  refine GC.seq ?_
  refine GC.region ?_
  obtain ⟨x3, hr4, h⟩ := h
  refine GL.val trivial rfl (OV.loadT (p := (b1, 0)) (cs := T_api_Value.c x3) rfl rfl rfl hr4) ?_
  refine GL.call h trivial rfl ok_law03_parts (vs := [.agg (T_api_Value.c x3).toArray]) rfl ?_
  rintro _ H6 ⟨r5, rfl, h⟩
  refine GL.val trivial rfl (OV.ibin (v := .bool (decide ((r5 : Int) > 2000))) rfl rfl rfl) ?_
  refine GL.val trivial rfl (OV.assign (v := .bool (decide ((r5 : Int) > 2000))) rfl) ?_
  refine GL.nil ?_
  exact GC.ret (fun _ _ hf hs => post_tmp1 rfl rfl hf hs ⟨(decide ((r5 : Int) > 2000)), rfl, h⟩)

def sh_law03_works (C : Ctx) (K : Bool → Heap → Prop) (H : Heap) : Prop :=
  c_code_Count C Sl.nil 300 (fun r1 H2 =>
 c_code_Num C r1 (-1) (fun r3 H4 =>
 c_code_Str C r3 [97, 0] (fun r5 H6 =>
 c_code_Flag C r5 true (fun r7 H8 =>
 c_code_NewReader C r7 (fun r9 H10 =>
 b2s r7 (fun t11 =>
 jn (α := Bool) (fun b14 H20 =>
 jn (α := Bool) (fun b21 H27 =>
 jn (α := Bool) (fun b28 H34 =>
 jn (α := Bool) (fun b35 H41 =>
 jn (α := Bool) (fun b42 H48 =>
 jn (α := Bool) (fun b49 H55 =>
 K b49 H55)
 (fun J50 => ift b42
 (c_code_Reader_Done C r9 (fun r53 H54 =>
 J50 r53 H54) H48)
 (J50 false H48)))
 (fun J43 => ift b35
 (c_code_Reader_Flag C r9 (fun r46 H47 =>
 J43 r46 H47) H41)
 (J43 false H41)))
 (fun J36 => ift b28
 (c_code_Reader_Done C r9 (fun r39 H40 =>
 J36 (!r39) H40) H34)
 (J36 false H34)))
 (fun J29 => ift b21
 (c_code_Reader_Str C r9 2 (fun r32 H33 =>
 J29 (r32 == ([97, 0] : Str)) H33) H27)
 (J29 false H27)))
 (fun J22 => ift b14
 (c_code_Reader_Num C r9 (fun r25 H26 =>
 J22 ((r25 : Int) == (-1)) H26) H20)
 (J22 false H20)))
 (fun J15 => ift (t11 == ([2, 1, 44, 127, 97, 0, 255, 0, 0, 1] : Str))
 (c_code_Reader_Count C r9 300 (fun r18 H19 =>
 J15 ((r18 : Int) == 300) H19) H10)
 (J15 false H10))) H10) H8) H6) H4) H2) H

theorem ad_law03_works (C : Ctx) (K : Bool → Heap → Prop) (H : Heap) (h : sh_law03_works C  K H) : c_law03_works C  K H := by
  refine Spec.enter Tryd.func11 rfl Tryd.ntmps11 rfl ?_
  refine GC.sub [] trivial ?_
  refine GC.seq ?_
  refine GC.region ?_
  refine GL.val trivial rfl (OV.assign (v := .bool false) rfl) ?_
  refine GL.nil ?_
  refine GC.seq ?_
  refine GC.region ?_
  refine GL.call h trivial rfl ok_code_Count (vs := [slv Sl.nil, .int .i64 300]) rfl ?_
  rintro _ H2 ⟨r1, rfl, h⟩
  refine GL.call h trivial rfl ok_code_Num (vs := [slv r1, .int .i64 (-1)]) rfl ?_
  rintro _ H4 ⟨r3, rfl, h⟩
  refine GL.call h trivial rfl ok_code_Str (vs := [slv r3, sv [97, 0]]) rfl ?_
  rintro _ H6 ⟨r5, rfl, h⟩
  refine GL.call h trivial rfl ok_code_Flag (vs := [slv r5, .bool true]) rfl ?_
  rintro _ H8 ⟨r7, rfl, h⟩
  refine GL.val trivial rfl (OV.assign (v := slv r7) rfl) ?_
  refine GL.nil ?_
  refine GC.seq ?_
  refine GC.region ?_
  refine GL.val trivial rfl (OV.move (v := slv r7) rfl) ?_
  refine GL.call h trivial rfl ok_code_NewReader (vs := [slv r7]) rfl ?_
  rintro _ H10 ⟨r9, rfl, h⟩
  refine GL.val trivial rfl (OV.assign (v := pv r9) rfl) ?_
  refine GL.nil ?_
  refine GC.seq ?_
  refine GC.region ?_
  refine GL.val trivial rfl (OV.move (v := slv r7) rfl) ?_
  obtain ⟨t11, h12, h13, h⟩ := h
  refine GL.val trivial rfl (OV.b2s (b := r7) (s := t11) h12 h13 rfl rfl rfl rfl) ?_
  refine GL.val trivial rfl (OV.sbin (a := t11) (b := ([2, 1, 44, 127, 97, 0, 255, 0, 0, 1] : Str)) (v := .bool (t11 == ([2, 1, 44, 127, 97, 0, 255, 0, 0, 1] : Str))) rfl rfl rfl) ?_
  refine GL.val trivial rfl (OV.move (v := .bool (t11 == ([2, 1, 44, 127, 97, 0, 255, 0, 0, 1] : Str))) rfl) ?_
  obtain ⟨J15, h, hR16⟩ := h
  refine GL.cut (α := Bool) 4 J15 (fun b14 => [(16, .bool b14), (2, pv r9)]) ?_ ?_
  · rcases Bool.eq_false_or_eq_true (t11 == ([2, 1, 44, 127, 97, 0, 255, 0, 0, 1] : Str)) with hc17 | hc17
    · skip
      replace h := And.left h hc17
      refine GL.val ⟨_, _, rfl, rfl, hc17⟩ rfl (OV.move (v := pv r9) rfl) ?_
      refine GL.call h ⟨_, _, rfl, rfl, hc17⟩ rfl ok_code_Reader_Count (vs := [pv r9, .int .i64 300]) rfl ?_
      rintro _ H19 ⟨r18, rfl, h⟩
      refine GL.val ⟨_, _, rfl, rfl, hc17⟩ rfl (OV.ibin (v := .bool ((r18 : Int) == 300)) rfl rfl rfl) ?_
      refine GL.val trivial rfl (OV.pickT (b := t11 == ([2, 1, 44, 127, 97, 0, 255, 0, 0, 1] : Str)) (v := .bool ((r18 : Int) == 300)) rfl hc17 rfl) ?_
      exact GL.jump (fun _ _ h => h) ((r18 : Int) == 300) h ⟨rfl, rfl, trivial⟩
    · skip
      replace h := And.right h hc17
      refine GL.skip ⟨_, rfl, .inl ⟨_, rfl, hc17⟩⟩ rfl ?_
      refine GL.skip ⟨_, rfl, .inl ⟨_, rfl, hc17⟩⟩ rfl ?_
      refine GL.skip ⟨_, rfl, .inl ⟨_, rfl, hc17⟩⟩ rfl ?_
      refine GL.val trivial rfl (OV.pickF (b := t11 == ([2, 1, 44, 127, 97, 0, 255, 0, 0, 1] : Str)) (v := .bool false) rfl hc17 rfl) ?_
      exact GL.jump (fun _ _ h => h) false h ⟨rfl, rfl, trivial⟩
  intro b14 H20 h
  replace h := hR16 b14 H20 h
  refine GL.val trivial rfl (OV.move (v := .bool b14) rfl) ?_
  obtain ⟨J22, h, hR23⟩ := h
  refine GL.cut (α := Bool) 4 J22 (fun b21 => [(21, .bool b21), (2, pv r9)]) ?_ ?_
  · rcases Bool.eq_false_or_eq_true b14 with hc24 | hc24
    · skip
      replace h := And.left h hc24
      refine GL.val ⟨_, _, rfl, rfl, hc24⟩ rfl (OV.move (v := pv r9) rfl) ?_
      refine GL.call h ⟨_, _, rfl, rfl, hc24⟩ rfl ok_code_Reader_Num (vs := [pv r9]) rfl ?_
      rintro _ H26 ⟨r25, rfl, h⟩
      refine GL.val ⟨_, _, rfl, rfl, hc24⟩ rfl (OV.ibin (v := .bool ((r25 : Int) == (-1))) rfl rfl rfl) ?_
      refine GL.val trivial rfl (OV.pickT (b := b14) (v := .bool ((r25 : Int) == (-1))) rfl hc24 rfl) ?_
      exact GL.jump (fun _ _ h => h) ((r25 : Int) == (-1)) h ⟨rfl, rfl, trivial⟩
    · skip
      replace h := And.right h hc24
      refine GL.skip ⟨_, rfl, .inl ⟨_, rfl, hc24⟩⟩ rfl ?_
      refine GL.skip ⟨_, rfl, .inl ⟨_, rfl, hc24⟩⟩ rfl ?_
      refine GL.skip ⟨_, rfl, .inl ⟨_, rfl, hc24⟩⟩ rfl ?_
      refine GL.val trivial rfl (OV.pickF (b := b14) (v := .bool false) rfl hc24 rfl) ?_
      exact GL.jump (fun _ _ h => h) false h ⟨rfl, rfl, trivial⟩
  intro b21 H27 h
  replace h := hR23 b21 H27 h
  refine GL.val trivial rfl (OV.move (v := .bool b21) rfl) ?_
  obtain ⟨J29, h, hR30⟩ := h
  refine GL.cut (α := Bool) 4 J29 (fun b28 => [(26, .bool b28), (2, pv r9)]) ?_ ?_
  · rcases Bool.eq_false_or_eq_true b21 with hc31 | hc31
    · skip
      replace h := And.left h hc31
      refine GL.val ⟨_, _, rfl, rfl, hc31⟩ rfl (OV.move (v := pv r9) rfl) ?_
      refine GL.call h ⟨_, _, rfl, rfl, hc31⟩ rfl ok_code_Reader_Str (vs := [pv r9, .int .i64 2]) rfl ?_
      rintro _ H33 ⟨r32, rfl, h⟩
      refine GL.val ⟨_, _, rfl, rfl, hc31⟩ rfl (OV.sbin (a := r32) (b := ([97, 0] : Str)) (v := .bool (r32 == ([97, 0] : Str))) rfl rfl rfl) ?_
      refine GL.val trivial rfl (OV.pickT (b := b21) (v := .bool (r32 == ([97, 0] : Str))) rfl hc31 rfl) ?_
      exact GL.jump (fun _ _ h => h) (r32 == ([97, 0] : Str)) h ⟨rfl, rfl, trivial⟩
    · skip
      replace h := And.right h hc31
      refine GL.skip ⟨_, rfl, .inl ⟨_, rfl, hc31⟩⟩ rfl ?_
      refine GL.skip ⟨_, rfl, .inl ⟨_, rfl, hc31⟩⟩ rfl ?_
      refine GL.skip ⟨_, rfl, .inl ⟨_, rfl, hc31⟩⟩ rfl ?_
      refine GL.val trivial rfl (OV.pickF (b := b21) (v := .bool false) rfl hc31 rfl) ?_
      exact GL.jump (fun _ _ h => h) false h ⟨rfl, rfl, trivial⟩
  intro b28 H34 h
  replace h := hR30 b28 H34 h
  refine GL.val trivial rfl (OV.move (v := .bool b28) rfl) ?_
  obtain ⟨J36, h, hR37⟩ := h
  refine GL.cut (α := Bool) 4 J36 (fun b35 => [(31, .bool b35), (2, pv r9)]) ?_ ?_
  · rcases Bool.eq_false_or_eq_true b28 with hc38 | hc38
    · skip
      replace h := And.left h hc38
      refine GL.val ⟨_, _, rfl, rfl, hc38⟩ rfl (OV.move (v := pv r9) rfl) ?_
      refine GL.call h ⟨_, _, rfl, rfl, hc38⟩ rfl ok_code_Reader_Done (vs := [pv r9]) rfl ?_
      rintro _ H40 ⟨r39, rfl, h⟩
      refine GL.val ⟨_, _, rfl, rfl, hc38⟩ rfl (OV.not rfl) ?_
      refine GL.val trivial rfl (OV.pickT (b := b28) (v := .bool (!r39)) rfl hc38 rfl) ?_
      exact GL.jump (fun _ _ h => h) (!r39) h ⟨rfl, rfl, trivial⟩
    · skip
      replace h := And.right h hc38
      refine GL.skip ⟨_, rfl, .inl ⟨_, rfl, hc38⟩⟩ rfl ?_
      refine GL.skip ⟨_, rfl, .inl ⟨_, rfl, hc38⟩⟩ rfl ?_
      refine GL.skip ⟨_, rfl, .inl ⟨_, rfl, hc38⟩⟩ rfl ?_
      refine GL.val trivial rfl (OV.pickF (b := b28) (v := .bool false) rfl hc38 rfl) ?_
      exact GL.jump (fun _ _ h => h) false h ⟨rfl, rfl, trivial⟩
  intro b35 H41 h
  replace h := hR37 b35 H41 h
  refine GL.val trivial rfl (OV.move (v := .bool b35) rfl) ?_
  obtain ⟨J43, h, hR44⟩ := h
  refine GL.cut (α := Bool) 3 J43 (fun b42 => [(35, .bool b42), (2, pv r9)]) ?_ ?_
  · rcases Bool.eq_false_or_eq_true b35 with hc45 | hc45
    · skip
      replace h := And.left h hc45
      refine GL.val ⟨_, _, rfl, rfl, hc45⟩ rfl (OV.move (v := pv r9) rfl) ?_
      refine GL.call h ⟨_, _, rfl, rfl, hc45⟩ rfl ok_code_Reader_Flag (vs := [pv r9]) rfl ?_
      rintro _ H47 ⟨r46, rfl, h⟩
      refine GL.val trivial rfl (OV.pickT (b := b35) (v := .bool r46) rfl hc45 rfl) ?_
      exact GL.jump (fun _ _ h => h) r46 h ⟨rfl, rfl, trivial⟩
    · skip
      replace h := And.right h hc45
      refine GL.skip ⟨_, rfl, .inl ⟨_, rfl, hc45⟩⟩ rfl ?_
      refine GL.skip ⟨_, rfl, .inl ⟨_, rfl, hc45⟩⟩ rfl ?_
      refine GL.val trivial rfl (OV.pickF (b := b35) (v := .bool false) rfl hc45 rfl) ?_
      exact GL.jump (fun _ _ h => h) false h ⟨rfl, rfl, trivial⟩
  intro b42 H48 h
  replace h := hR44 b42 H48 h
  refine GL.val trivial rfl (OV.move (v := .bool b42) rfl) ?_
  obtain ⟨J50, h, hR51⟩ := h
  refine GL.cut (α := Bool) 3 J50 (fun b49 => [(39, .bool b49)]) ?_ ?_
  · rcases Bool.eq_false_or_eq_true b42 with hc52 | hc52
    · skip
      replace h := And.left h hc52
      refine GL.val ⟨_, _, rfl, rfl, hc52⟩ rfl (OV.move (v := pv r9) rfl) ?_
      refine GL.call h ⟨_, _, rfl, rfl, hc52⟩ rfl ok_code_Reader_Done (vs := [pv r9]) rfl ?_
      rintro _ H54 ⟨r53, rfl, h⟩
      refine GL.val trivial rfl (OV.pickT (b := b42) (v := .bool r53) rfl hc52 rfl) ?_
      exact GL.jump (fun _ _ h => h) r53 h ⟨rfl, trivial⟩
    · skip
      replace h := And.right h hc52
      refine GL.skip ⟨_, rfl, .inl ⟨_, rfl, hc52⟩⟩ rfl ?_
      refine GL.skip ⟨_, rfl, .inl ⟨_, rfl, hc52⟩⟩ rfl ?_
      refine GL.val trivial rfl (OV.pickF (b := b42) (v := .bool false) rfl hc52 rfl) ?_
      exact GL.jump (fun _ _ h => h) false h ⟨rfl, trivial⟩
  intro b49 H55 h
  replace h := hR51 b49 H55 h
  refine GL.val trivial rfl (OV.assign (v := .bool b49) rfl) ?_
  refine GL.nil ?_
  exact GC.ret (fun _ _ hf hs => post_tmp1 rfl rfl hf hs ⟨b49, rfl, h⟩)

def sh_law03_put (C : Ctx) (p_got : Sl) (p_want : Sl) (K : Bool → Heap → Prop) (H : Heap) : Prop :=
  b2s p_got (fun t1 =>
 b2s p_want (fun t4 =>
 lp (α := Int) 0 H (fun x7 J8 H9 =>
 ift (decide ((x7 : Int) < (Sl.len p_got : Int)))
 (ixa p_got x7 fun p11 =>
 ldI H9 .u8 (p11.1, p11.2 + (x7 : Int).toNat * 1) fun x16 =>
 ixa p_got x7 fun p18 =>
 st (p18.1, p18.2 + (x7 : Int).toNat * 1) (.int .u8 (bXor .u8 x16 85)) (fun H23 =>
 J8 (w .i64 (x7 + 1)) H23) H9)
 (K (t1 == t4) H9))) H) H

theorem ad_law03_put (C : Ctx) (p_got : Sl) (p_want : Sl) (K : Bool → Heap → Prop) (H : Heap) (h : sh_law03_put C p_got p_want K H) : c_law03_put C p_got p_want K H := by
  refine Spec.enter Tryd.func12 rfl Tryd.ntmps12 rfl ?_
  refine GC.sub [(0, slv p_got), (1, slv p_want)] ⟨rfl, rfl, trivial⟩ ?_
  refine GC.seq ?_
  refine GC.region ?_
  refine GL.val trivial rfl (OV.assign (v := .bool false) rfl) ?_
  refine GL.nil ?_
  refine GC.seq ?_
  refine GC.region ?_
  refine GL.val trivial rfl (OV.move (v := slv p_got) rfl) ?_
  obtain ⟨t1, h2, h3, h⟩ := h
  refine GL.val trivial rfl (OV.b2s (b := p_got) (s := t1) h2 h3 rfl rfl rfl rfl) ?_
  refine GL.val trivial rfl (OV.move (v := slv p_want) rfl) ?_
  obtain ⟨t4, h5, h6, h⟩ := h
  refine GL.val trivial rfl (OV.b2s (b := p_want) (s := t4) h5 h6 rfl rfl rfl rfl) ?_
  refine GL.val trivial rfl (OV.sbin (a := t1) (b := t4) (v := .bool (t1 == t4)) rfl rfl rfl) ?_
  refine GL.val trivial rfl (OV.assign (v := .bool (t1 == t4)) rfl) ?_
  refine GL.nil ?_
  refine GC.seq ?_
  refine GC.seq ?_
  refine GC.region ?_
  refine GL.val trivial rfl (OV.assign (v := .int .i64 0) rfl) ?_
  refine GL.nil ?_
  refine GC.block ?_
  refine GC.loop (α := Int) h (fun x7 => [(6, .int .i64 x7), (0, slv p_got), (5, .bool (t1 == t4))]) ⟨rfl, rfl, rfl, trivial⟩ ?_
  intro x7 H9 J8 h
  refine GC.seq ?_
  refine GC.seq ?_
  refine GC.region ?_
  refine GL.val trivial rfl (OV.move (v := .int .i64 x7) rfl) ?_
  refine GL.val trivial rfl (OV.move (v := slv p_got) rfl) ?_
  refine GL.val trivial rfl (OV.lenSl (s := p_got) rfl rfl) ?_
  refine GL.val trivial rfl (OV.ibin (v := .bool (decide ((x7 : Int) < (Sl.len p_got : Int)))) rfl rfl rfl) ?_
  refine GL.nil ?_
  refine GC.cond (b := decide ((x7 : Int) < (Sl.len p_got : Int))) rfl (fun hc10 => ?_) (fun hc10 => ?_)
  · replace h := And.left h hc10
    refine GC.skip ?_
    refine GC.seq ?_
    refine GC.block ?_
    refine GC.region ?_
    refine GL.val trivial rfl (OV.move (v := slv p_got) rfl) ?_
    refine GL.val trivial rfl (OV.move (v := .int .i64 x7) rfl) ?_
    refine GL.val trivial rfl (OV.move (v := slv p_got) rfl) ?_
    refine GL.val trivial rfl (OV.move (v := .int .i64 x7) rfl) ?_
    obtain ⟨p11, ha12, hb13, hc14, hd15, h⟩ := h
    refine GL.val trivial rfl (OV.indexAddr (s := p_got) rfl rfl rfl rfl ha12 hb13 hc14 hd15) ?_
    obtain ⟨x16, hr17, h⟩ := h
    refine GL.val trivial rfl (OV.load (p := (p11.1, p11.2 + (x7 : Int).toNat * 1)) rfl rfl hr17) ?_
    refine GL.val trivial rfl (OV.ibin (v := .int .u8 (bXor .u8 x16 85)) rfl rfl rfl) ?_
    obtain ⟨p18, ha19, hb20, hc21, hd22, h⟩ := h
    refine GL.val trivial rfl (OV.indexAddr (s := p_got) rfl rfl rfl rfl ha19 hb20 hc21 hd22) ?_
    refine GL.store (p := (p18.1, p18.2 + (x7 : Int).toNat * 1)) (v := .int .u8 (bXor .u8 x16 85)) h trivial rfl rfl rfl rfl ?_
    intro H23 h
    refine GL.nil_to (fun _ _ h => h) ?_
    refine GC.region ?_
    refine GL.val trivial rfl (OV.move (v := .int .i64 x7) rfl) ?_
    refine GL.val trivial rfl (OV.ibin (v := .int .i64 (w .i64 (x7 + 1))) rfl rfl rfl) ?_
    refine GL.val trivial rfl (OV.assign (v := .int .i64 (w .i64 (x7 + 1))) rfl) ?_
    exact GL.jump (fun _ _ h => h) (w .i64 (x7 + 1)) h ⟨rfl, rfl, rfl, trivial⟩
  · replace h := And.right h hc10
    refine GC.exit_to (fun _ _ h => h) ?_
    refine GC.seq ?_
    refine GC.region ?_
    refine GL.val trivial rfl (OV.move (v := .bool (t1 == t4)) rfl) ?_
    refine GL.val trivial rfl (OV.assign (v := .bool (t1 == t4)) rfl) ?_
    refine GL.nil ?_
    exact GC.ret (fun _ _ hf hs => post_tmp1 rfl rfl hf hs ⟨(t1 == t4), rfl, h⟩)

def sh_code_Num (C : Ctx) (p_b : Sl) (p_n : Int) (K : Sl → Heap → Prop) (H : Heap) : Prop :=
  c_code_behind C p_b (fun r1 H2 =>
 c_code_pen_num C r1 p_n (fun H3 =>
 nck r1 fun p4 =>
 ldL H3 (p4.1, p4.2 + 0) fun x6 =>
 K x6 H3) H2) H

theorem ad_code_Num (C : Ctx) (p_b : Sl) (p_n : Int) (K : Sl → Heap → Prop) (H : Heap) (h : sh_code_Num C p_b p_n K H) : c_code_Num C p_b p_n K H := by
  refine Spec.enter Tryd.func13 rfl Tryd.ntmps13 rfl ?_
  refine GC.sub [(0, slv p_b), (1, .int .i64 p_n)] ⟨rfl, rfl, trivial⟩ ?_
  refine GC.seq ?_
  refine GC.region ?_
  refine GL.val trivial rfl (OV.assign (v := slv Sl.nil) rfl) ?_
  refine GL.nil ?_
  refine GC.seq ?_
  refine GC.region ?_
  refine GL.val trivial rfl (OV.move (v := slv p_b) rfl) ?_
  refine GL.call h trivial rfl ok_code_behind (vs := [slv p_b]) rfl ?_
  rintro _ H2 ⟨r1, rfl, h⟩
  refine GL.val trivial rfl (OV.assign (v := pv r1) rfl) ?_
  refine GL.nil ?_
  refine GC.seq ?_
  refine GC.region ?_
  refine GL.val trivial rfl (OV.move (v := pv r1) rfl) ?_
  refine GL.val trivial rfl (OV.move (v := .int .i64 p_n) rfl) ?_
  refine GL.call h trivial rfl ok_code_pen_num (vs := [pv r1, .int .i64 p_n]) rfl ?_
  rintro _ H3 ⟨rfl, h⟩
  refine GL.nil ?_
  refine GC.seq ?_
  refine GC.region ?_
  refine GL.val trivial rfl (OV.move (v := pv r1) rfl) ?_
  obtain ⟨p4, hp5, h⟩ := h
  refine GL.val trivial rfl (OV.nilCheck (q := r1) rfl hp5) ?_
  refine GL.val trivial rfl (OV.fieldAddr (p := p4) rfl rfl) ?_
  obtain ⟨x6, hr7, h⟩ := h
  refine GL.val trivial rfl (OV.load (p := (p4.1, p4.2 + 0)) rfl rfl hr7) ?_
  refine GL.val trivial rfl (OV.assign (v := slv x6) rfl) ?_
  refine GL.nil ?_
  exact GC.ret (fun _ _ hf hs => post_tmp1 rfl rfl hf hs ⟨x6, rfl, h⟩)

end Sx
