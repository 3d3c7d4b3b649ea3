/-
  Texts of this family, one behind the other: Sh1.
-/
import Derived.Test.YthfggbmlmpegaaaGreatDoorA1
import Derived.Test.YthfggbmlmpegaaaGreatDoorProg
noncomputable section
set_option linter.unusedVariables false
set_option maxRecDepth 100000
namespace Sx
open Go Go.Proofs
structure T_api_Value where
  Kind : Int
  N : Int
  S : Str
  L : Sl
def T_api_Value.c (x : T_api_Value) : List Value := [.int .u8 x.Kind, .int .i64 x.N, sv x.S, slv x.L]
def T_api_Value.zero : T_api_Value := ⟨0, 0, [], Sl.nil⟩

theorem ok_law02_heavy : CallOk Tryz.prog 5 := ⟨⟨_, Tryz.func5, rfl, by decide +kernel⟩⟩
theorem ok_law02_awake : CallOk Tryz.prog 6 := ⟨⟨_, Tryz.func6, rfl, by decide +kernel⟩⟩
theorem ok_value_CmpRows : CallOk Tryz.prog 7 := ⟨⟨_, Tryz.func7, rfl, by decide +kernel⟩⟩
theorem ok_ref02_CmpRows : CallOk Tryz.prog 8 := ⟨⟨_, Tryz.func8, rfl, by decide +kernel⟩⟩
theorem ok_value_Cmp : CallOk Tryz.prog 9 := ⟨⟨_, Tryz.func9, rfl, by decide +kernel⟩⟩
theorem ok_ref02_Own : CallOk Tryz.prog 11 := ⟨⟨_, Tryz.func11, rfl, by decide +kernel⟩⟩
theorem ok_value_Sort : CallOk Tryz.prog 12 := ⟨⟨_, Tryz.func12, rfl, by decide +kernel⟩⟩
theorem ok_ref02_Sort : CallOk Tryz.prog 13 := ⟨⟨_, Tryz.func13, rfl, by decide +kernel⟩⟩
theorem ok_ref02_SameRows : CallOk Tryz.prog 14 := ⟨⟨_, Tryz.func14, rfl, by decide +kernel⟩⟩
theorem ok_law02_spoil : CallOk Tryz.prog 15 := ⟨⟨_, Tryz.func15, rfl, by decide +kernel⟩⟩
theorem ok_law02_weight : CallOk Tryz.prog 16 := ⟨⟨_, Tryz.func16, rfl, by decide +kernel⟩⟩
theorem ok_value_Check : CallOk Tryz.prog 17 := ⟨⟨_, Tryz.func17, rfl, by decide +kernel⟩⟩
theorem ok_value_Show : CallOk Tryz.prog 18 := ⟨⟨_, Tryz.func18, rfl, by decide +kernel⟩⟩
theorem ok_value_may : CallOk Tryz.prog 19 := ⟨⟨_, Tryz.func19, rfl, by decide +kernel⟩⟩
theorem ok_value_last : CallOk Tryz.prog 20 := ⟨⟨_, Tryz.func20, rfl, by decide +kernel⟩⟩
theorem ok_value_rows : CallOk Tryz.prog 21 := ⟨⟨_, Tryz.func21, rfl, by decide +kernel⟩⟩
theorem ok_ref02_Row : CallOk Tryz.prog 22 := ⟨⟨_, Tryz.func22, rfl, by decide +kernel⟩⟩
theorem ok_ref02_last : CallOk Tryz.prog 23 := ⟨⟨_, Tryz.func23, rfl, by decide +kernel⟩⟩
theorem ok_ref02_rows : CallOk Tryz.prog 24 := ⟨⟨_, Tryz.func24, rfl, by decide +kernel⟩⟩
theorem ok_ref02_Check : CallOk Tryz.prog 25 := ⟨⟨_, Tryz.func25, rfl, by decide +kernel⟩⟩
theorem ok_ref02_cmp : CallOk Tryz.prog 26 := ⟨⟨_, Tryz.func26, rfl, by decide +kernel⟩⟩
theorem ok_value_own : CallOk Tryz.prog 27 := ⟨⟨_, Tryz.func27, rfl, by decide +kernel⟩⟩
theorem ok_slices_SortStableFunc_api_Value_api_Value : CallOk Tryz.prog 28 := ⟨⟨_, Tryz.func28, rfl, by decide +kernel⟩⟩
theorem ok_slices_CompactFunc_api_Value_api_Value : CallOk Tryz.prog 29 := ⟨⟨_, Tryz.func29, rfl, by decide +kernel⟩⟩
theorem ok_value_Sort_1 : CallOk Tryz.prog 30 := ⟨⟨_, Tryz.func30, rfl, by decide +kernel⟩⟩
theorem ok_ref02_SameRow : CallOk Tryz.prog 31 := ⟨⟨_, Tryz.func31, rfl, by decide +kernel⟩⟩
theorem ok_value_depth : CallOk Tryz.prog 32 := ⟨⟨_, Tryz.func32, rfl, by decide +kernel⟩⟩
theorem ok_value_item_look : CallOk Tryz.prog 33 := ⟨⟨_, Tryz.func33, rfl, by decide +kernel⟩⟩
theorem ok_value_Show_1 : CallOk Tryz.prog 34 := ⟨⟨_, Tryz.func34, rfl, by decide +kernel⟩⟩
theorem ok_strings_Builder_WriteByte : CallOk Tryz.prog 35 := ⟨⟨_, Tryz.func35, rfl, by decide +kernel⟩⟩
theorem ok_strings_Builder_WriteString : CallOk Tryz.prog 36 := ⟨⟨_, Tryz.func36, rfl, by decide +kernel⟩⟩
theorem ok_value_Show_2 : CallOk Tryz.prog 37 := ⟨⟨_, Tryz.func37, rfl, by decide +kernel⟩⟩
theorem ok_strconv_FormatBool : CallOk Tryz.prog 38 := ⟨⟨_, Tryz.func38, rfl, by decide +kernel⟩⟩
theorem ok_strconv_FormatInt : CallOk Tryz.prog 39 := ⟨⟨_, Tryz.func39, rfl, by decide +kernel⟩⟩
theorem ok_value_quote : CallOk Tryz.prog 40 := ⟨⟨_, Tryz.func40, rfl, by decide +kernel⟩⟩
theorem ok_strings_Builder_String : CallOk Tryz.prog 41 := ⟨⟨_, Tryz.func41, rfl, by decide +kernel⟩⟩
theorem ok_slices_ContainsFunc_api_Value_api_Value : CallOk Tryz.prog 42 := ⟨⟨_, Tryz.func42, rfl, by decide +kernel⟩⟩
theorem ok_value_may_1 : CallOk Tryz.prog 43 := ⟨⟨_, Tryz.func43, rfl, by decide +kernel⟩⟩
theorem ok_slices_CompareFunc_api_Value_api_Value_api_Value_api_Value : CallOk Tryz.prog 44 := ⟨⟨_, Tryz.func44, rfl, by decide +kernel⟩⟩
theorem ok_value_rows_1 : CallOk Tryz.prog 45 := ⟨⟨_, Tryz.func45, rfl, by decide +kernel⟩⟩
theorem ok_value_item_cmp : CallOk Tryz.prog 46 := ⟨⟨_, Tryz.func46, rfl, by decide +kernel⟩⟩
theorem ok_ref02_ints : CallOk Tryz.prog 47 := ⟨⟨_, Tryz.func47, rfl, by decide +kernel⟩⟩
theorem ok_ref02_Depth : CallOk Tryz.prog 48 := ⟨⟨_, Tryz.func48, rfl, by decide +kernel⟩⟩
theorem ok_ref02_form : CallOk Tryz.prog 49 := ⟨⟨_, Tryz.func49, rfl, by decide +kernel⟩⟩
theorem ok_ref02_fits : CallOk Tryz.prog 50 := ⟨⟨_, Tryz.func50, rfl, by decide +kernel⟩⟩
theorem ok_ref02_Bigs : CallOk Tryz.prog 51 := ⟨⟨_, Tryz.func51, rfl, by decide +kernel⟩⟩
theorem ok_ref02_texts : CallOk Tryz.prog 52 := ⟨⟨_, Tryz.func52, rfl, by decide +kernel⟩⟩
theorem ok_slices_Clone_api_Value_api_Value : CallOk Tryz.prog 53 := ⟨⟨_, Tryz.func53, rfl, by decide +kernel⟩⟩
theorem ok_slices_stableCmpFunc_api_Value : CallOk Tryz.prog 54 := ⟨⟨_, Tryz.func54, rfl, by decide +kernel⟩⟩
theorem ok_ref02_Same : CallOk Tryz.prog 55 := ⟨⟨_, Tryz.func55, rfl, by decide +kernel⟩⟩
theorem ok_value_number : CallOk Tryz.prog 56 := ⟨⟨_, Tryz.func56, rfl, by decide +kernel⟩⟩
theorem ok_strings_Cut : CallOk Tryz.prog 57 := ⟨⟨_, Tryz.func57, rfl, by decide +kernel⟩⟩
theorem ok_value_name : CallOk Tryz.prog 58 := ⟨⟨_, Tryz.func58, rfl, by decide +kernel⟩⟩
theorem ok_strings_Builder_copyCheck : CallOk Tryz.prog 59 := ⟨⟨_, Tryz.func59, rfl, by decide +kernel⟩⟩
theorem ok_internal_strconv_FormatBool : CallOk Tryz.prog 60 := ⟨⟨_, Tryz.func60, rfl, by decide +kernel⟩⟩
theorem ok_slices_IndexFunc_api_Value_api_Value : CallOk Tryz.prog 62 := ⟨⟨_, Tryz.func62, rfl, by decide +kernel⟩⟩
theorem ok_cmp_Compare_uint8 : CallOk Tryz.prog 63 := ⟨⟨_, Tryz.func63, rfl, by decide +kernel⟩⟩
theorem ok_value_bigs : CallOk Tryz.prog 64 := ⟨⟨_, Tryz.func64, rfl, by decide +kernel⟩⟩
theorem ok_cmp_Compare_string : CallOk Tryz.prog 65 := ⟨⟨_, Tryz.func65, rfl, by decide +kernel⟩⟩
theorem ok_cmp_Or_int : CallOk Tryz.prog 66 := ⟨⟨_, Tryz.func66, rfl, by decide +kernel⟩⟩
theorem ok_cmp_Compare_int64 : CallOk Tryz.prog 67 := ⟨⟨_, Tryz.func67, rfl, by decide +kernel⟩⟩
theorem ok_ref02_Number : CallOk Tryz.prog 68 := ⟨⟨_, Tryz.func68, rfl, by decide +kernel⟩⟩
theorem ok_ref02_Names : CallOk Tryz.prog 69 := ⟨⟨_, Tryz.func69, rfl, by decide +kernel⟩⟩
theorem ok_ref02_Digits : CallOk Tryz.prog 70 := ⟨⟨_, Tryz.func70, rfl, by decide +kernel⟩⟩
theorem ok_slices_insertionSortCmpFunc_api_Value : CallOk Tryz.prog 71 := ⟨⟨_, Tryz.func71, rfl, by decide +kernel⟩⟩
theorem ok_slices_symMergeCmpFunc_api_Value : CallOk Tryz.prog 72 := ⟨⟨_, Tryz.func72, rfl, by decide +kernel⟩⟩
theorem ok_strings_TrimPrefix : CallOk Tryz.prog 73 := ⟨⟨_, Tryz.func73, rfl, by decide +kernel⟩⟩
theorem ok_strings_Trim : CallOk Tryz.prog 74 := ⟨⟨_, Tryz.func74, rfl, by decide +kernel⟩⟩
theorem ok_internal_stringslite_Cut : CallOk Tryz.prog 75 := ⟨⟨_, Tryz.func75, rfl, by decide +kernel⟩⟩
theorem ok_cmp_isNaN_uint8 : CallOk Tryz.prog 81 := ⟨⟨_, Tryz.func81, rfl, by decide +kernel⟩⟩
theorem ok_strings_HasPrefix : CallOk Tryz.prog 82 := ⟨⟨_, Tryz.func82, rfl, by decide +kernel⟩⟩
theorem ok_cmp_Compare_int : CallOk Tryz.prog 83 := ⟨⟨_, Tryz.func83, rfl, by decide +kernel⟩⟩
theorem ok_cmp_isNaN_string : CallOk Tryz.prog 84 := ⟨⟨_, Tryz.func84, rfl, by decide +kernel⟩⟩
theorem ok_cmp_isNaN_int64 : CallOk Tryz.prog 85 := ⟨⟨_, Tryz.func85, rfl, by decide +kernel⟩⟩
theorem ok_ref02_Name : CallOk Tryz.prog 86 := ⟨⟨_, Tryz.func86, rfl, by decide +kernel⟩⟩
theorem ok_slices_rotateCmpFunc_api_Value : CallOk Tryz.prog 87 := ⟨⟨_, Tryz.func87, rfl, by decide +kernel⟩⟩
theorem ok_internal_stringslite_TrimPrefix : CallOk Tryz.prog 88 := ⟨⟨_, Tryz.func88, rfl, by decide +kernel⟩⟩
theorem ok_strings_trimLeftByte : CallOk Tryz.prog 89 := ⟨⟨_, Tryz.func89, rfl, by decide +kernel⟩⟩
theorem ok_strings_trimRightByte : CallOk Tryz.prog 90 := ⟨⟨_, Tryz.func90, rfl, by decide +kernel⟩⟩
theorem ok_strings_makeASCIISet : CallOk Tryz.prog 91 := ⟨⟨_, Tryz.func91, rfl, by decide +kernel⟩⟩
theorem ok_strings_trimLeftASCII : CallOk Tryz.prog 92 := ⟨⟨_, Tryz.func92, rfl, by decide +kernel⟩⟩
theorem ok_strings_trimRightASCII : CallOk Tryz.prog 93 := ⟨⟨_, Tryz.func93, rfl, by decide +kernel⟩⟩
theorem ok_strings_trimLeftUnicode : CallOk Tryz.prog 94 := ⟨⟨_, Tryz.func94, rfl, by decide +kernel⟩⟩
theorem ok_strings_trimRightUnicode : CallOk Tryz.prog 95 := ⟨⟨_, Tryz.func95, rfl, by decide +kernel⟩⟩
theorem ok_internal_stringslite_Index : CallOk Tryz.prog 96 := ⟨⟨_, Tryz.func96, rfl, by decide +kernel⟩⟩
theorem ok_internal_stringslite_HasPrefix : CallOk Tryz.prog 102 := ⟨⟨_, Tryz.func102, rfl, by decide +kernel⟩⟩
theorem ok_cmp_isNaN_int : CallOk Tryz.prog 103 := ⟨⟨_, Tryz.func103, rfl, by decide +kernel⟩⟩
theorem ok_ref02_letter : CallOk Tryz.prog 104 := ⟨⟨_, Tryz.func104, rfl, by decide +kernel⟩⟩
theorem ok_slices_swapRangeCmpFunc_api_Value : CallOk Tryz.prog 105 := ⟨⟨_, Tryz.func105, rfl, by decide +kernel⟩⟩
theorem ok_strings_asciiSet_contains : CallOk Tryz.prog 106 := ⟨⟨_, Tryz.func106, rfl, by decide +kernel⟩⟩
theorem ok_internal_stringslite_IndexByte : CallOk Tryz.prog 110 := ⟨⟨_, Tryz.func110, rfl, by decide +kernel⟩⟩
theorem ok_internal_bytealg_Cutover : CallOk Tryz.prog 112 := ⟨⟨_, Tryz.func112, rfl, by decide +kernel⟩⟩
theorem ok_internal_bytealg_IndexRabinKarp_string : CallOk Tryz.prog 113 := ⟨⟨_, Tryz.func113, rfl, by decide +kernel⟩⟩
theorem ext_internal_abi_NoEscape : ExtOk Tryz.prog 76 Extern.AbiNoEscape.same := ⟨⟨_, Tryz.func76, by kernel_rfl, by kernel_rfl, by kernel_rfl, by kernel_rfl⟩⟩
theorem ext_internal_bytealg_IndexByteString : ExtOk Tryz.prog 119 Extern.BytealgIndexByte.indexByte := ⟨⟨_, Tryz.func119, by kernel_rfl, by kernel_rfl, by kernel_rfl, by kernel_rfl⟩⟩

abbrev tyB : TypeId := 49
abbrev tyE : TypeId := 5
abbrev Bd (bs : Str) : GO := .bld tyB tyE bs

def c_law02_ValueSorts (C : Ctx) (p_l : Sl) (K : Bool → Heap → Prop) (H : Heap) : Prop :=
  Spec Tryz.prog C 4 [slv p_l] H (fun v H2 => ∃ (r0 : Bool), v = .bool r0 ∧ K r0 H2)
theorem c_law02_ValueSorts.mono {C : Ctx} {p_l : Sl} {K K2 : Bool → Heap → Prop} {H : Heap} (h : c_law02_ValueSorts C p_l K H) (hk : ∀ r0 H2, K r0 H2 → K2 r0 H2) : c_law02_ValueSorts C p_l K2 H :=
  Spec.mono h fun _ H2 ⟨r0, hv, h2⟩ => ⟨r0, hv, hk r0 H2 h2⟩
theorem c_law02_ValueSorts.gh {C : Ctx} {p_l : Sl} {K : Bool → Heap → Prop} {H : Heap} (h : c_law02_ValueSorts C p_l (fun r0 H2 => ∃ H0, Gh C H2 H0 ∧ K r0 H0) H) : c_law02_ValueSorts C p_l K H :=
  Spec.gh (Spec.mono h fun _ H2 ⟨r0, hv, H0, hg, hk⟩ => ⟨H0, hg, r0, hv, hk⟩)
def c_law02_heavy (C : Ctx) (p_l : Sl) (K : Bool → Heap → Prop) (H : Heap) : Prop :=
  Spec Tryz.prog C 5 [slv p_l] H (fun v H2 => ∃ (r0 : Bool), v = .bool r0 ∧ K r0 H2)
theorem c_law02_heavy.mono {C : Ctx} {p_l : Sl} {K K2 : Bool → Heap → Prop} {H : Heap} (h : c_law02_heavy C p_l K H) (hk : ∀ r0 H2, K r0 H2 → K2 r0 H2) : c_law02_heavy C p_l K2 H :=
  Spec.mono h fun _ H2 ⟨r0, hv, h2⟩ => ⟨r0, hv, hk r0 H2 h2⟩
theorem c_law02_heavy.gh {C : Ctx} {p_l : Sl} {K : Bool → Heap → Prop} {H : Heap} (h : c_law02_heavy C p_l (fun r0 H2 => ∃ H0, Gh C H2 H0 ∧ K r0 H0) H) : c_law02_heavy C p_l K H :=
  Spec.gh (Spec.mono h fun _ H2 ⟨r0, hv, H0, hg, hk⟩ => ⟨H0, hg, r0, hv, hk⟩)
def c_law02_awake (C : Ctx) (K : Bool → Heap → Prop) (H : Heap) : Prop :=
  Spec Tryz.prog C 6 [] H (fun v H2 => ∃ (r0 : Bool), v = .bool r0 ∧ K r0 H2)
theorem c_law02_awake.mono {C : Ctx} {K K2 : Bool → Heap → Prop} {H : Heap} (h : c_law02_awake C  K H) (hk : ∀ r0 H2, K r0 H2 → K2 r0 H2) : c_law02_awake C  K2 H :=
  Spec.mono h fun _ H2 ⟨r0, hv, h2⟩ => ⟨r0, hv, hk r0 H2 h2⟩
theorem c_law02_awake.gh {C : Ctx} {K : Bool → Heap → Prop} {H : Heap} (h : c_law02_awake C  (fun r0 H2 => ∃ H0, Gh C H2 H0 ∧ K r0 H0) H) : c_law02_awake C  K H :=
  Spec.gh (Spec.mono h fun _ H2 ⟨r0, hv, H0, hg, hk⟩ => ⟨H0, hg, r0, hv, hk⟩)
def c_value_CmpRows (C : Ctx) (p_a : Sl) (p_b : Sl) (K : Int → Heap → Prop) (H : Heap) : Prop :=
  Spec Tryz.prog C 7 [slv p_a, slv p_b] H (fun v H2 => ∃ (r0 : Int), v = .int .i64 r0 ∧ K r0 H2)
theorem c_value_CmpRows.mono {C : Ctx} {p_a : Sl} {p_b : Sl} {K K2 : Int → Heap → Prop} {H : Heap} (h : c_value_CmpRows C p_a p_b K H) (hk : ∀ r0 H2, K r0 H2 → K2 r0 H2) : c_value_CmpRows C p_a p_b K2 H :=
  Spec.mono h fun _ H2 ⟨r0, hv, h2⟩ => ⟨r0, hv, hk r0 H2 h2⟩
theorem c_value_CmpRows.gh {C : Ctx} {p_a : Sl} {p_b : Sl} {K : Int → Heap → Prop} {H : Heap} (h : c_value_CmpRows C p_a p_b (fun r0 H2 => ∃ H0, Gh C H2 H0 ∧ K r0 H0) H) : c_value_CmpRows C p_a p_b K H :=
  Spec.gh (Spec.mono h fun _ H2 ⟨r0, hv, H0, hg, hk⟩ => ⟨H0, hg, r0, hv, hk⟩)
def c_ref02_CmpRows (C : Ctx) (p_a : Sl) (p_b : Sl) (K : Int → Heap → Prop) (H : Heap) : Prop :=
  Spec Tryz.prog C 8 [slv p_a, slv p_b] H (fun v H2 => ∃ (r0 : Int), v = .int .i64 r0 ∧ K r0 H2)
theorem c_ref02_CmpRows.mono {C : Ctx} {p_a : Sl} {p_b : Sl} {K K2 : Int → Heap → Prop} {H : Heap} (h : c_ref02_CmpRows C p_a p_b K H) (hk : ∀ r0 H2, K r0 H2 → K2 r0 H2) : c_ref02_CmpRows C p_a p_b K2 H :=
  Spec.mono h fun _ H2 ⟨r0, hv, h2⟩ => ⟨r0, hv, hk r0 H2 h2⟩
theorem c_ref02_CmpRows.gh {C : Ctx} {p_a : Sl} {p_b : Sl} {K : Int → Heap → Prop} {H : Heap} (h : c_ref02_CmpRows C p_a p_b (fun r0 H2 => ∃ H0, Gh C H2 H0 ∧ K r0 H0) H) : c_ref02_CmpRows C p_a p_b K H :=
  Spec.gh (Spec.mono h fun _ H2 ⟨r0, hv, H0, hg, hk⟩ => ⟨H0, hg, r0, hv, hk⟩)
def c_value_Cmp (C : Ctx) (p_a : T_api_Value) (p_b : T_api_Value) (K : Int → Heap → Prop) (H : Heap) : Prop :=
  Spec Tryz.prog C 9 [.agg (T_api_Value.c p_a).toArray, .agg (T_api_Value.c p_b).toArray] H (fun v H2 => ∃ (r0 : Int), v = .int .i64 r0 ∧ K r0 H2)
theorem c_value_Cmp.mono {C : Ctx} {p_a : T_api_Value} {p_b : T_api_Value} {K K2 : Int → Heap → Prop} {H : Heap} (h : c_value_Cmp C p_a p_b K H) (hk : ∀ r0 H2, K r0 H2 → K2 r0 H2) : c_value_Cmp C p_a p_b K2 H :=
  Spec.mono h fun _ H2 ⟨r0, hv, h2⟩ => ⟨r0, hv, hk r0 H2 h2⟩
theorem c_value_Cmp.gh {C : Ctx} {p_a : T_api_Value} {p_b : T_api_Value} {K : Int → Heap → Prop} {H : Heap} (h : c_value_Cmp C p_a p_b (fun r0 H2 => ∃ H0, Gh C H2 H0 ∧ K r0 H0) H) : c_value_Cmp C p_a p_b K H :=
  Spec.gh (Spec.mono h fun _ H2 ⟨r0, hv, H0, hg, hk⟩ => ⟨H0, hg, r0, hv, hk⟩)
def c_ref02_Own (C : Ctx) (p_l : Sl) (K : Sl → Heap → Prop) (H : Heap) : Prop :=
  Spec Tryz.prog C 11 [slv p_l] H (fun v H2 => ∃ (r0 : Sl), v = slv r0 ∧ K r0 H2)
theorem c_ref02_Own.mono {C : Ctx} {p_l : Sl} {K K2 : Sl → Heap → Prop} {H : Heap} (h : c_ref02_Own C p_l K H) (hk : ∀ r0 H2, K r0 H2 → K2 r0 H2) : c_ref02_Own C p_l K2 H :=
  Spec.mono h fun _ H2 ⟨r0, hv, h2⟩ => ⟨r0, hv, hk r0 H2 h2⟩
theorem c_ref02_Own.gh {C : Ctx} {p_l : Sl} {K : Sl → Heap → Prop} {H : Heap} (h : c_ref02_Own C p_l (fun r0 H2 => ∃ H0, Gh C H2 H0 ∧ K r0 H0) H) : c_ref02_Own C p_l K H :=
  Spec.gh (Spec.mono h fun _ H2 ⟨r0, hv, H0, hg, hk⟩ => ⟨H0, hg, r0, hv, hk⟩)
def c_value_Sort (C : Ctx) (p_l : Sl) (K : Sl → Heap → Prop) (H : Heap) : Prop :=
  Spec Tryz.prog C 12 [slv p_l] H (fun v H2 => ∃ (r0 : Sl), v = slv r0 ∧ K r0 H2)
theorem c_value_Sort.mono {C : Ctx} {p_l : Sl} {K K2 : Sl → Heap → Prop} {H : Heap} (h : c_value_Sort C p_l K H) (hk : ∀ r0 H2, K r0 H2 → K2 r0 H2) : c_value_Sort C p_l K2 H :=
  Spec.mono h fun _ H2 ⟨r0, hv, h2⟩ => ⟨r0, hv, hk r0 H2 h2⟩
theorem c_value_Sort.gh {C : Ctx} {p_l : Sl} {K : Sl → Heap → Prop} {H : Heap} (h : c_value_Sort C p_l (fun r0 H2 => ∃ H0, Gh C H2 H0 ∧ K r0 H0) H) : c_value_Sort C p_l K H :=
  Spec.gh (Spec.mono h fun _ H2 ⟨r0, hv, H0, hg, hk⟩ => ⟨H0, hg, r0, hv, hk⟩)
def c_ref02_Sort (C : Ctx) (p_l : Sl) (K : Sl → Heap → Prop) (H : Heap) : Prop :=
  Spec Tryz.prog C 13 [slv p_l] H (fun v H2 => ∃ (r0 : Sl), v = slv r0 ∧ K r0 H2)
theorem c_ref02_Sort.mono {C : Ctx} {p_l : Sl} {K K2 : Sl → Heap → Prop} {H : Heap} (h : c_ref02_Sort C p_l K H) (hk : ∀ r0 H2, K r0 H2 → K2 r0 H2) : c_ref02_Sort C p_l K2 H :=
  Spec.mono h fun _ H2 ⟨r0, hv, h2⟩ => ⟨r0, hv, hk r0 H2 h2⟩
theorem c_ref02_Sort.gh {C : Ctx} {p_l : Sl} {K : Sl → Heap → Prop} {H : Heap} (h : c_ref02_Sort C p_l (fun r0 H2 => ∃ H0, Gh C H2 H0 ∧ K r0 H0) H) : c_ref02_Sort C p_l K H :=
  Spec.gh (Spec.mono h fun _ H2 ⟨r0, hv, H0, hg, hk⟩ => ⟨H0, hg, r0, hv, hk⟩)
def c_ref02_SameRows (C : Ctx) (p_a : Sl) (p_b : Sl) (K : Bool → Heap → Prop) (H : Heap) : Prop :=
  Spec Tryz.prog C 14 [slv p_a, slv p_b] H (fun v H2 => ∃ (r0 : Bool), v = .bool r0 ∧ K r0 H2)
theorem c_ref02_SameRows.mono {C : Ctx} {p_a : Sl} {p_b : Sl} {K K2 : Bool → Heap → Prop} {H : Heap} (h : c_ref02_SameRows C p_a p_b K H) (hk : ∀ r0 H2, K r0 H2 → K2 r0 H2) : c_ref02_SameRows C p_a p_b K2 H :=
  Spec.mono h fun _ H2 ⟨r0, hv, h2⟩ => ⟨r0, hv, hk r0 H2 h2⟩
theorem c_ref02_SameRows.gh {C : Ctx} {p_a : Sl} {p_b : Sl} {K : Bool → Heap → Prop} {H : Heap} (h : c_ref02_SameRows C p_a p_b (fun r0 H2 => ∃ H0, Gh C H2 H0 ∧ K r0 H0) H) : c_ref02_SameRows C p_a p_b K H :=
  Spec.gh (Spec.mono h fun _ H2 ⟨r0, hv, H0, hg, hk⟩ => ⟨H0, hg, r0, hv, hk⟩)
def c_law02_spoil (C : Ctx) (p_l : Sl) (K : Heap → Prop) (H : Heap) : Prop :=
  Spec Tryz.prog C 15 [slv p_l] H (fun v H2 => v = .tuple #[] ∧ K H2)
theorem c_law02_spoil.mono {C : Ctx} {p_l : Sl} {K K2 : Heap → Prop} {H : Heap} (h : c_law02_spoil C p_l K H) (hk : ∀  H2, K  H2 → K2  H2) : c_law02_spoil C p_l K2 H :=
  Spec.mono h fun _ H2 ⟨hv, h2⟩ => ⟨hv, hk H2 h2⟩
theorem c_law02_spoil.gh {C : Ctx} {p_l : Sl} {K : Heap → Prop} {H : Heap} (h : c_law02_spoil C p_l (fun  H2 => ∃ H0, Gh C H2 H0 ∧ K  H0) H) : c_law02_spoil C p_l K H :=
  Spec.gh (Spec.mono h fun _ H2 ⟨hv, H0, hg, hk⟩ => ⟨H0, hg, hv, hk⟩)
def c_law02_weight (C : Ctx) (p_v : T_api_Value) (p_most : Int) (K : Int → Heap → Prop) (H : Heap) : Prop :=
  Spec Tryz.prog C 16 [.agg (T_api_Value.c p_v).toArray, .int .i64 p_most] H (fun v H2 => ∃ (r0 : Int), v = .int .i64 r0 ∧ K r0 H2)
theorem c_law02_weight.mono {C : Ctx} {p_v : T_api_Value} {p_most : Int} {K K2 : Int → Heap → Prop} {H : Heap} (h : c_law02_weight C p_v p_most K H) (hk : ∀ r0 H2, K r0 H2 → K2 r0 H2) : c_law02_weight C p_v p_most K2 H :=
  Spec.mono h fun _ H2 ⟨r0, hv, h2⟩ => ⟨r0, hv, hk r0 H2 h2⟩
theorem c_law02_weight.gh {C : Ctx} {p_v : T_api_Value} {p_most : Int} {K : Int → Heap → Prop} {H : Heap} (h : c_law02_weight C p_v p_most (fun r0 H2 => ∃ H0, Gh C H2 H0 ∧ K r0 H0) H) : c_law02_weight C p_v p_most K H :=
  Spec.gh (Spec.mono h fun _ H2 ⟨r0, hv, H0, hg, hk⟩ => ⟨H0, hg, r0, hv, hk⟩)
def c_value_Check (C : Ctx) (p_v : T_api_Value) (K : Int → Heap → Prop) (H : Heap) : Prop :=
  Spec Tryz.prog C 17 [.agg (T_api_Value.c p_v).toArray] H (fun v H2 => ∃ (r0 : Int), v = .int .i64 r0 ∧ K r0 H2)
theorem c_value_Check.mono {C : Ctx} {p_v : T_api_Value} {K K2 : Int → Heap → Prop} {H : Heap} (h : c_value_Check C p_v K H) (hk : ∀ r0 H2, K r0 H2 → K2 r0 H2) : c_value_Check C p_v K2 H :=
  Spec.mono h fun _ H2 ⟨r0, hv, h2⟩ => ⟨r0, hv, hk r0 H2 h2⟩
theorem c_value_Check.gh {C : Ctx} {p_v : T_api_Value} {K : Int → Heap → Prop} {H : Heap} (h : c_value_Check C p_v (fun r0 H2 => ∃ H0, Gh C H2 H0 ∧ K r0 H0) H) : c_value_Check C p_v K H :=
  Spec.gh (Spec.mono h fun _ H2 ⟨r0, hv, H0, hg, hk⟩ => ⟨H0, hg, r0, hv, hk⟩)
def c_value_Show (C : Ctx) (p_v : T_api_Value) (K : Str → Heap → Prop) (H : Heap) : Prop :=
  Spec Tryz.prog C 18 [.agg (T_api_Value.c p_v).toArray] H (fun v H2 => ∃ (r0 : Str), v = sv r0 ∧ K r0 H2)
theorem c_value_Show.mono {C : Ctx} {p_v : T_api_Value} {K K2 : Str → Heap → Prop} {H : Heap} (h : c_value_Show C p_v K H) (hk : ∀ r0 H2, K r0 H2 → K2 r0 H2) : c_value_Show C p_v K2 H :=
  Spec.mono h fun _ H2 ⟨r0, hv, h2⟩ => ⟨r0, hv, hk r0 H2 h2⟩
theorem c_value_Show.gh {C : Ctx} {p_v : T_api_Value} {K : Str → Heap → Prop} {H : Heap} (h : c_value_Show C p_v (fun r0 H2 => ∃ H0, Gh C H2 H0 ∧ K r0 H0) H) : c_value_Show C p_v K H :=
  Spec.gh (Spec.mono h fun _ H2 ⟨r0, hv, H0, hg, hk⟩ => ⟨H0, hg, r0, hv, hk⟩)
def c_value_may (C : Ctx) (p_l : Sl) (K : Bool → Heap → Prop) (H : Heap) : Prop :=
  Spec Tryz.prog C 19 [slv p_l] H (fun v H2 => ∃ (r0 : Bool), v = .bool r0 ∧ K r0 H2)
theorem c_value_may.mono {C : Ctx} {p_l : Sl} {K K2 : Bool → Heap → Prop} {H : Heap} (h : c_value_may C p_l K H) (hk : ∀ r0 H2, K r0 H2 → K2 r0 H2) : c_value_may C p_l K2 H :=
  Spec.mono h fun _ H2 ⟨r0, hv, h2⟩ => ⟨r0, hv, hk r0 H2 h2⟩
theorem c_value_may.gh {C : Ctx} {p_l : Sl} {K : Bool → Heap → Prop} {H : Heap} (h : c_value_may C p_l (fun r0 H2 => ∃ H0, Gh C H2 H0 ∧ K r0 H0) H) : c_value_may C p_l K H :=
  Spec.gh (Spec.mono h fun _ H2 ⟨r0, hv, H0, hg, hk⟩ => ⟨H0, hg, r0, hv, hk⟩)
def c_value_last (C : Ctx) (p_a : Bool) (p_b : Bool) (K : Int → Heap → Prop) (H : Heap) : Prop :=
  Spec Tryz.prog C 20 [.bool p_a, .bool p_b] H (fun v H2 => ∃ (r0 : Int), v = .int .i64 r0 ∧ K r0 H2)
theorem c_value_last.mono {C : Ctx} {p_a : Bool} {p_b : Bool} {K K2 : Int → Heap → Prop} {H : Heap} (h : c_value_last C p_a p_b K H) (hk : ∀ r0 H2, K r0 H2 → K2 r0 H2) : c_value_last C p_a p_b K2 H :=
  Spec.mono h fun _ H2 ⟨r0, hv, h2⟩ => ⟨r0, hv, hk r0 H2 h2⟩
theorem c_value_last.gh {C : Ctx} {p_a : Bool} {p_b : Bool} {K : Int → Heap → Prop} {H : Heap} (h : c_value_last C p_a p_b (fun r0 H2 => ∃ H0, Gh C H2 H0 ∧ K r0 H0) H) : c_value_last C p_a p_b K H :=
  Spec.gh (Spec.mono h fun _ H2 ⟨r0, hv, H0, hg, hk⟩ => ⟨H0, hg, r0, hv, hk⟩)
def c_value_rows (C : Ctx) (p_a : Sl) (p_b : Sl) (K : Int → Heap → Prop) (H : Heap) : Prop :=
  Spec Tryz.prog C 21 [slv p_a, slv p_b] H (fun v H2 => ∃ (r0 : Int), v = .int .i64 r0 ∧ K r0 H2)
theorem c_value_rows.mono {C : Ctx} {p_a : Sl} {p_b : Sl} {K K2 : Int → Heap → Prop} {H : Heap} (h : c_value_rows C p_a p_b K H) (hk : ∀ r0 H2, K r0 H2 → K2 r0 H2) : c_value_rows C p_a p_b K2 H :=
  Spec.mono h fun _ H2 ⟨r0, hv, h2⟩ => ⟨r0, hv, hk r0 H2 h2⟩
theorem c_value_rows.gh {C : Ctx} {p_a : Sl} {p_b : Sl} {K : Int → Heap → Prop} {H : Heap} (h : c_value_rows C p_a p_b (fun r0 H2 => ∃ H0, Gh C H2 H0 ∧ K r0 H0) H) : c_value_rows C p_a p_b K H :=
  Spec.gh (Spec.mono h fun _ H2 ⟨r0, hv, H0, hg, hk⟩ => ⟨H0, hg, r0, hv, hk⟩)
def c_ref02_Row (C : Ctx) (p_l : Sl) (K : Bool → Heap → Prop) (H : Heap) : Prop :=
  Spec Tryz.prog C 22 [slv p_l] H (fun v H2 => ∃ (r0 : Bool), v = .bool r0 ∧ K r0 H2)
theorem c_ref02_Row.mono {C : Ctx} {p_l : Sl} {K K2 : Bool → Heap → Prop} {H : Heap} (h : c_ref02_Row C p_l K H) (hk : ∀ r0 H2, K r0 H2 → K2 r0 H2) : c_ref02_Row C p_l K2 H :=
  Spec.mono h fun _ H2 ⟨r0, hv, h2⟩ => ⟨r0, hv, hk r0 H2 h2⟩
theorem c_ref02_Row.gh {C : Ctx} {p_l : Sl} {K : Bool → Heap → Prop} {H : Heap} (h : c_ref02_Row C p_l (fun r0 H2 => ∃ H0, Gh C H2 H0 ∧ K r0 H0) H) : c_ref02_Row C p_l K H :=
  Spec.gh (Spec.mono h fun _ H2 ⟨r0, hv, H0, hg, hk⟩ => ⟨H0, hg, r0, hv, hk⟩)
def c_ref02_last (C : Ctx) (p_a : Bool) (p_b : Bool) (K : Int → Heap → Prop) (H : Heap) : Prop :=
  Spec Tryz.prog C 23 [.bool p_a, .bool p_b] H (fun v H2 => ∃ (r0 : Int), v = .int .i64 r0 ∧ K r0 H2)
theorem c_ref02_last.mono {C : Ctx} {p_a : Bool} {p_b : Bool} {K K2 : Int → Heap → Prop} {H : Heap} (h : c_ref02_last C p_a p_b K H) (hk : ∀ r0 H2, K r0 H2 → K2 r0 H2) : c_ref02_last C p_a p_b K2 H :=
  Spec.mono h fun _ H2 ⟨r0, hv, h2⟩ => ⟨r0, hv, hk r0 H2 h2⟩
theorem c_ref02_last.gh {C : Ctx} {p_a : Bool} {p_b : Bool} {K : Int → Heap → Prop} {H : Heap} (h : c_ref02_last C p_a p_b (fun r0 H2 => ∃ H0, Gh C H2 H0 ∧ K r0 H0) H) : c_ref02_last C p_a p_b K H :=
  Spec.gh (Spec.mono h fun _ H2 ⟨r0, hv, H0, hg, hk⟩ => ⟨H0, hg, r0, hv, hk⟩)
def c_ref02_rows (C : Ctx) (p_a : Sl) (p_b : Sl) (K : Int → Heap → Prop) (H : Heap) : Prop :=
  Spec Tryz.prog C 24 [slv p_a, slv p_b] H (fun v H2 => ∃ (r0 : Int), v = .int .i64 r0 ∧ K r0 H2)
theorem c_ref02_rows.mono {C : Ctx} {p_a : Sl} {p_b : Sl} {K K2 : Int → Heap → Prop} {H : Heap} (h : c_ref02_rows C p_a p_b K H) (hk : ∀ r0 H2, K r0 H2 → K2 r0 H2) : c_ref02_rows C p_a p_b K2 H :=
  Spec.mono h fun _ H2 ⟨r0, hv, h2⟩ => ⟨r0, hv, hk r0 H2 h2⟩
theorem c_ref02_rows.gh {C : Ctx} {p_a : Sl} {p_b : Sl} {K : Int → Heap → Prop} {H : Heap} (h : c_ref02_rows C p_a p_b (fun r0 H2 => ∃ H0, Gh C H2 H0 ∧ K r0 H0) H) : c_ref02_rows C p_a p_b K H :=
  Spec.gh (Spec.mono h fun _ H2 ⟨r0, hv, H0, hg, hk⟩ => ⟨H0, hg, r0, hv, hk⟩)
def c_ref02_Check (C : Ctx) (p_v : T_api_Value) (K : Int → Heap → Prop) (H : Heap) : Prop :=
  Spec Tryz.prog C 25 [.agg (T_api_Value.c p_v).toArray] H (fun v H2 => ∃ (r0 : Int), v = .int .i64 r0 ∧ K r0 H2)
theorem c_ref02_Check.mono {C : Ctx} {p_v : T_api_Value} {K K2 : Int → Heap → Prop} {H : Heap} (h : c_ref02_Check C p_v K H) (hk : ∀ r0 H2, K r0 H2 → K2 r0 H2) : c_ref02_Check C p_v K2 H :=
  Spec.mono h fun _ H2 ⟨r0, hv, h2⟩ => ⟨r0, hv, hk r0 H2 h2⟩
theorem c_ref02_Check.gh {C : Ctx} {p_v : T_api_Value} {K : Int → Heap → Prop} {H : Heap} (h : c_ref02_Check C p_v (fun r0 H2 => ∃ H0, Gh C H2 H0 ∧ K r0 H0) H) : c_ref02_Check C p_v K H :=
  Spec.gh (Spec.mono h fun _ H2 ⟨r0, hv, H0, hg, hk⟩ => ⟨H0, hg, r0, hv, hk⟩)
def c_ref02_cmp (C : Ctx) (p_a : T_api_Value) (p_b : T_api_Value) (K : Int → Heap → Prop) (H : Heap) : Prop :=
  Spec Tryz.prog C 26 [.agg (T_api_Value.c p_a).toArray, .agg (T_api_Value.c p_b).toArray] H (fun v H2 => ∃ (r0 : Int), v = .int .i64 r0 ∧ K r0 H2)
theorem c_ref02_cmp.mono {C : Ctx} {p_a : T_api_Value} {p_b : T_api_Value} {K K2 : Int → Heap → Prop} {H : Heap} (h : c_ref02_cmp C p_a p_b K H) (hk : ∀ r0 H2, K r0 H2 → K2 r0 H2) : c_ref02_cmp C p_a p_b K2 H :=
  Spec.mono h fun _ H2 ⟨r0, hv, h2⟩ => ⟨r0, hv, hk r0 H2 h2⟩
theorem c_ref02_cmp.gh {C : Ctx} {p_a : T_api_Value} {p_b : T_api_Value} {K : Int → Heap → Prop} {H : Heap} (h : c_ref02_cmp C p_a p_b (fun r0 H2 => ∃ H0, Gh C H2 H0 ∧ K r0 H0) H) : c_ref02_cmp C p_a p_b K H :=
  Spec.gh (Spec.mono h fun _ H2 ⟨r0, hv, H0, hg, hk⟩ => ⟨H0, hg, r0, hv, hk⟩)
def c_value_own (C : Ctx) (p_l : Sl) (K : Sl → Heap → Prop) (H : Heap) : Prop :=
  Spec Tryz.prog C 27 [slv p_l] H (fun v H2 => ∃ (r0 : Sl), v = slv r0 ∧ K r0 H2)
theorem c_value_own.mono {C : Ctx} {p_l : Sl} {K K2 : Sl → Heap → Prop} {H : Heap} (h : c_value_own C p_l K H) (hk : ∀ r0 H2, K r0 H2 → K2 r0 H2) : c_value_own C p_l K2 H :=
  Spec.mono h fun _ H2 ⟨r0, hv, h2⟩ => ⟨r0, hv, hk r0 H2 h2⟩
theorem c_value_own.gh {C : Ctx} {p_l : Sl} {K : Sl → Heap → Prop} {H : Heap} (h : c_value_own C p_l (fun r0 H2 => ∃ H0, Gh C H2 H0 ∧ K r0 H0) H) : c_value_own C p_l K H :=
  Spec.gh (Spec.mono h fun _ H2 ⟨r0, hv, H0, hg, hk⟩ => ⟨H0, hg, r0, hv, hk⟩)
def c_slices_SortStableFunc_api_Value_api_Value (C : Ctx) (p_x : Sl) (p_cmp : Value) (K : Heap → Prop) (H : Heap) : Prop :=
  Spec Tryz.prog C 28 [slv p_x, p_cmp] H (fun v H2 => v = .tuple #[] ∧ K H2)
theorem c_slices_SortStableFunc_api_Value_api_Value.mono {C : Ctx} {p_x : Sl} {p_cmp : Value} {K K2 : Heap → Prop} {H : Heap} (h : c_slices_SortStableFunc_api_Value_api_Value C p_x p_cmp K H) (hk : ∀  H2, K  H2 → K2  H2) : c_slices_SortStableFunc_api_Value_api_Value C p_x p_cmp K2 H :=
  Spec.mono h fun _ H2 ⟨hv, h2⟩ => ⟨hv, hk H2 h2⟩
theorem c_slices_SortStableFunc_api_Value_api_Value.gh {C : Ctx} {p_x : Sl} {p_cmp : Value} {K : Heap → Prop} {H : Heap} (h : c_slices_SortStableFunc_api_Value_api_Value C p_x p_cmp (fun  H2 => ∃ H0, Gh C H2 H0 ∧ K  H0) H) : c_slices_SortStableFunc_api_Value_api_Value C p_x p_cmp K H :=
  Spec.gh (Spec.mono h fun _ H2 ⟨hv, H0, hg, hk⟩ => ⟨H0, hg, hv, hk⟩)
def c_slices_CompactFunc_api_Value_api_Value (C : Ctx) (p_s : Sl) (p_eq : Value) (K : Sl → Heap → Prop) (H : Heap) : Prop :=
  Spec Tryz.prog C 29 [slv p_s, p_eq] H (fun v H2 => ∃ (r0 : Sl), v = slv r0 ∧ K r0 H2)
theorem c_slices_CompactFunc_api_Value_api_Value.mono {C : Ctx} {p_s : Sl} {p_eq : Value} {K K2 : Sl → Heap → Prop} {H : Heap} (h : c_slices_CompactFunc_api_Value_api_Value C p_s p_eq K H) (hk : ∀ r0 H2, K r0 H2 → K2 r0 H2) : c_slices_CompactFunc_api_Value_api_Value C p_s p_eq K2 H :=
  Spec.mono h fun _ H2 ⟨r0, hv, h2⟩ => ⟨r0, hv, hk r0 H2 h2⟩
theorem c_slices_CompactFunc_api_Value_api_Value.gh {C : Ctx} {p_s : Sl} {p_eq : Value} {K : Sl → Heap → Prop} {H : Heap} (h : c_slices_CompactFunc_api_Value_api_Value C p_s p_eq (fun r0 H2 => ∃ H0, Gh C H2 H0 ∧ K r0 H0) H) : c_slices_CompactFunc_api_Value_api_Value C p_s p_eq K H :=
  Spec.gh (Spec.mono h fun _ H2 ⟨r0, hv, H0, hg, hk⟩ => ⟨H0, hg, r0, hv, hk⟩)
def c_value_Sort_1 (C : Ctx) (p_a : Sl) (p_b : Sl) (K : Bool → Heap → Prop) (H : Heap) : Prop :=
  Spec Tryz.prog C 30 [slv p_a, slv p_b] H (fun v H2 => ∃ (r0 : Bool), v = .bool r0 ∧ K r0 H2)
theorem c_value_Sort_1.mono {C : Ctx} {p_a : Sl} {p_b : Sl} {K K2 : Bool → Heap → Prop} {H : Heap} (h : c_value_Sort_1 C p_a p_b K H) (hk : ∀ r0 H2, K r0 H2 → K2 r0 H2) : c_value_Sort_1 C p_a p_b K2 H :=
  Spec.mono h fun _ H2 ⟨r0, hv, h2⟩ => ⟨r0, hv, hk r0 H2 h2⟩
theorem c_value_Sort_1.gh {C : Ctx} {p_a : Sl} {p_b : Sl} {K : Bool → Heap → Prop} {H : Heap} (h : c_value_Sort_1 C p_a p_b (fun r0 H2 => ∃ H0, Gh C H2 H0 ∧ K r0 H0) H) : c_value_Sort_1 C p_a p_b K H :=
  Spec.gh (Spec.mono h fun _ H2 ⟨r0, hv, H0, hg, hk⟩ => ⟨H0, hg, r0, hv, hk⟩)
def c_ref02_SameRow (C : Ctx) (p_a : Sl) (p_b : Sl) (K : Bool → Heap → Prop) (H : Heap) : Prop :=
  Spec Tryz.prog C 31 [slv p_a, slv p_b] H (fun v H2 => ∃ (r0 : Bool), v = .bool r0 ∧ K r0 H2)
theorem c_ref02_SameRow.mono {C : Ctx} {p_a : Sl} {p_b : Sl} {K K2 : Bool → Heap → Prop} {H : Heap} (h : c_ref02_SameRow C p_a p_b K H) (hk : ∀ r0 H2, K r0 H2 → K2 r0 H2) : c_ref02_SameRow C p_a p_b K2 H :=
  Spec.mono h fun _ H2 ⟨r0, hv, h2⟩ => ⟨r0, hv, hk r0 H2 h2⟩
theorem c_ref02_SameRow.gh {C : Ctx} {p_a : Sl} {p_b : Sl} {K : Bool → Heap → Prop} {H : Heap} (h : c_ref02_SameRow C p_a p_b (fun r0 H2 => ∃ H0, Gh C H2 H0 ∧ K r0 H0) H) : c_ref02_SameRow C p_a p_b K H :=
  Spec.gh (Spec.mono h fun _ H2 ⟨r0, hv, H0, hg, hk⟩ => ⟨H0, hg, r0, hv, hk⟩)
def c_value_depth (C : Ctx) (p_v : T_api_Value) (p_most : Int) (K : Int → Heap → Prop) (H : Heap) : Prop :=
  Spec Tryz.prog C 32 [.agg (T_api_Value.c p_v).toArray, .int .i64 p_most] H (fun v H2 => ∃ (r0 : Int), v = .int .i64 r0 ∧ K r0 H2)
theorem c_value_depth.mono {C : Ctx} {p_v : T_api_Value} {p_most : Int} {K K2 : Int → Heap → Prop} {H : Heap} (h : c_value_depth C p_v p_most K H) (hk : ∀ r0 H2, K r0 H2 → K2 r0 H2) : c_value_depth C p_v p_most K2 H :=
  Spec.mono h fun _ H2 ⟨r0, hv, h2⟩ => ⟨r0, hv, hk r0 H2 h2⟩
theorem c_value_depth.gh {C : Ctx} {p_v : T_api_Value} {p_most : Int} {K : Int → Heap → Prop} {H : Heap} (h : c_value_depth C p_v p_most (fun r0 H2 => ∃ H0, Gh C H2 H0 ∧ K r0 H0) H) : c_value_depth C p_v p_most K H :=
  Spec.gh (Spec.mono h fun _ H2 ⟨r0, hv, H0, hg, hk⟩ => ⟨H0, hg, r0, hv, hk⟩)
def c_value_item_look (C : Ctx) (p_v : T_api_Value) (K : Bool → Bool → Heap → Prop) (H : Heap) : Prop :=
  Spec Tryz.prog C 33 [.agg (T_api_Value.c p_v).toArray] H (fun v H2 => ∃ (r0 : Bool) (r1 : Bool), v = .tuple #[.bool r0, .bool r1] ∧ K r0 r1 H2)
theorem c_value_item_look.mono {C : Ctx} {p_v : T_api_Value} {K K2 : Bool → Bool → Heap → Prop} {H : Heap} (h : c_value_item_look C p_v K H) (hk : ∀ r0 r1 H2, K r0 r1 H2 → K2 r0 r1 H2) : c_value_item_look C p_v K2 H :=
  Spec.mono h fun _ H2 ⟨r0, r1, hv, h2⟩ => ⟨r0, r1, hv, hk r0 r1 H2 h2⟩
theorem c_value_item_look.gh {C : Ctx} {p_v : T_api_Value} {K : Bool → Bool → Heap → Prop} {H : Heap} (h : c_value_item_look C p_v (fun r0 r1 H2 => ∃ H0, Gh C H2 H0 ∧ K r0 r1 H0) H) : c_value_item_look C p_v K H :=
  Spec.gh (Spec.mono h fun _ H2 ⟨r0, r1, hv, H0, hg, hk⟩ => ⟨H0, hg, r0, r1, hv, hk⟩)
def c_value_Show_1 (C : Ctx) (p_l : Sl) (v0 : Nat × Nat) (v1 : Nat × Nat) (K : Heap → Prop) (H : Heap) : Prop :=
  Spec Tryz.prog C 34 [slv p_l, pv (some v0), pv (some v1)] H (fun v H2 => v = .tuple #[] ∧ K H2)
theorem c_value_Show_1.mono {C : Ctx} {p_l : Sl} {v0 : Nat × Nat} {v1 : Nat × Nat} {K K2 : Heap → Prop} {H : Heap} (h : c_value_Show_1 C p_l v0 v1 K H) (hk : ∀  H2, K  H2 → K2  H2) : c_value_Show_1 C p_l v0 v1 K2 H :=
  Spec.mono h fun _ H2 ⟨hv, h2⟩ => ⟨hv, hk H2 h2⟩
theorem c_value_Show_1.gh {C : Ctx} {p_l : Sl} {v0 : Nat × Nat} {v1 : Nat × Nat} {K : Heap → Prop} {H : Heap} (h : c_value_Show_1 C p_l v0 v1 (fun  H2 => ∃ H0, Gh C H2 H0 ∧ K  H0) H) : c_value_Show_1 C p_l v0 v1 K H :=
  Spec.gh (Spec.mono h fun _ H2 ⟨hv, H0, hg, hk⟩ => ⟨H0, hg, hv, hk⟩)
def c_strings_Builder_WriteByte (C : Ctx) (p_b : Option (Nat × Nat)) (p_c : Int) (K : Value → Heap → Prop) (H : Heap) : Prop :=
  Spec Tryz.prog C 35 [pv p_b, .int .u8 p_c] H (fun v H2 => ∃ (r0 : Value), v = r0 ∧ K r0 H2)
theorem c_strings_Builder_WriteByte.mono {C : Ctx} {p_b : Option (Nat × Nat)} {p_c : Int} {K K2 : Value → Heap → Prop} {H : Heap} (h : c_strings_Builder_WriteByte C p_b p_c K H) (hk : ∀ r0 H2, K r0 H2 → K2 r0 H2) : c_strings_Builder_WriteByte C p_b p_c K2 H :=
  Spec.mono h fun _ H2 ⟨r0, hv, h2⟩ => ⟨r0, hv, hk r0 H2 h2⟩
theorem c_strings_Builder_WriteByte.gh {C : Ctx} {p_b : Option (Nat × Nat)} {p_c : Int} {K : Value → Heap → Prop} {H : Heap} (h : c_strings_Builder_WriteByte C p_b p_c (fun r0 H2 => ∃ H0, Gh C H2 H0 ∧ K r0 H0) H) : c_strings_Builder_WriteByte C p_b p_c K H :=
  Spec.gh (Spec.mono h fun _ H2 ⟨r0, hv, H0, hg, hk⟩ => ⟨H0, hg, r0, hv, hk⟩)
def c_strings_Builder_WriteString (C : Ctx) (p_b : Option (Nat × Nat)) (p_s : Str) (K : Int → Value → Heap → Prop) (H : Heap) : Prop :=
  Spec Tryz.prog C 36 [pv p_b, sv p_s] H (fun v H2 => ∃ (r0 : Int) (r1 : Value), v = .tuple #[.int .i64 r0, r1] ∧ K r0 r1 H2)
theorem c_strings_Builder_WriteString.mono {C : Ctx} {p_b : Option (Nat × Nat)} {p_s : Str} {K K2 : Int → Value → Heap → Prop} {H : Heap} (h : c_strings_Builder_WriteString C p_b p_s K H) (hk : ∀ r0 r1 H2, K r0 r1 H2 → K2 r0 r1 H2) : c_strings_Builder_WriteString C p_b p_s K2 H :=
  Spec.mono h fun _ H2 ⟨r0, r1, hv, h2⟩ => ⟨r0, r1, hv, hk r0 r1 H2 h2⟩
theorem c_strings_Builder_WriteString.gh {C : Ctx} {p_b : Option (Nat × Nat)} {p_s : Str} {K : Int → Value → Heap → Prop} {H : Heap} (h : c_strings_Builder_WriteString C p_b p_s (fun r0 r1 H2 => ∃ H0, Gh C H2 H0 ∧ K r0 r1 H0) H) : c_strings_Builder_WriteString C p_b p_s K H :=
  Spec.gh (Spec.mono h fun _ H2 ⟨r0, r1, hv, H0, hg, hk⟩ => ⟨H0, hg, r0, r1, hv, hk⟩)
def c_value_Show_2 (C : Ctx) (p_v : T_api_Value) (v0 : Nat × Nat) (v1 : Nat × Nat) (K : Heap → Prop) (H : Heap) : Prop :=
  Spec Tryz.prog C 37 [.agg (T_api_Value.c p_v).toArray, pv (some v0), pv (some v1)] H (fun v H2 => v = .tuple #[] ∧ K H2)
theorem c_value_Show_2.mono {C : Ctx} {p_v : T_api_Value} {v0 : Nat × Nat} {v1 : Nat × Nat} {K K2 : Heap → Prop} {H : Heap} (h : c_value_Show_2 C p_v v0 v1 K H) (hk : ∀  H2, K  H2 → K2  H2) : c_value_Show_2 C p_v v0 v1 K2 H :=
  Spec.mono h fun _ H2 ⟨hv, h2⟩ => ⟨hv, hk H2 h2⟩
theorem c_value_Show_2.gh {C : Ctx} {p_v : T_api_Value} {v0 : Nat × Nat} {v1 : Nat × Nat} {K : Heap → Prop} {H : Heap} (h : c_value_Show_2 C p_v v0 v1 (fun  H2 => ∃ H0, Gh C H2 H0 ∧ K  H0) H) : c_value_Show_2 C p_v v0 v1 K H :=
  Spec.gh (Spec.mono h fun _ H2 ⟨hv, H0, hg, hk⟩ => ⟨H0, hg, hv, hk⟩)
def c_strconv_FormatBool (C : Ctx) (p_b : Bool) (K : Str → Heap → Prop) (H : Heap) : Prop :=
  Spec Tryz.prog C 38 [.bool p_b] H (fun v H2 => ∃ (r0 : Str), v = sv r0 ∧ K r0 H2)
theorem c_strconv_FormatBool.mono {C : Ctx} {p_b : Bool} {K K2 : Str → Heap → Prop} {H : Heap} (h : c_strconv_FormatBool C p_b K H) (hk : ∀ r0 H2, K r0 H2 → K2 r0 H2) : c_strconv_FormatBool C p_b K2 H :=
  Spec.mono h fun _ H2 ⟨r0, hv, h2⟩ => ⟨r0, hv, hk r0 H2 h2⟩
theorem c_strconv_FormatBool.gh {C : Ctx} {p_b : Bool} {K : Str → Heap → Prop} {H : Heap} (h : c_strconv_FormatBool C p_b (fun r0 H2 => ∃ H0, Gh C H2 H0 ∧ K r0 H0) H) : c_strconv_FormatBool C p_b K H :=
  Spec.gh (Spec.mono h fun _ H2 ⟨r0, hv, H0, hg, hk⟩ => ⟨H0, hg, r0, hv, hk⟩)
def c_strconv_FormatInt (C : Ctx) (p_i : Int) (p_base : Int) (K : Str → Heap → Prop) (H : Heap) : Prop :=
  Spec Tryz.prog C 39 [.int .i64 p_i, .int .i64 p_base] H (fun v H2 => ∃ (r0 : Str), v = sv r0 ∧ K r0 H2)
theorem c_strconv_FormatInt.mono {C : Ctx} {p_i : Int} {p_base : Int} {K K2 : Str → Heap → Prop} {H : Heap} (h : c_strconv_FormatInt C p_i p_base K H) (hk : ∀ r0 H2, K r0 H2 → K2 r0 H2) : c_strconv_FormatInt C p_i p_base K2 H :=
  Spec.mono h fun _ H2 ⟨r0, hv, h2⟩ => ⟨r0, hv, hk r0 H2 h2⟩
theorem c_strconv_FormatInt.gh {C : Ctx} {p_i : Int} {p_base : Int} {K : Str → Heap → Prop} {H : Heap} (h : c_strconv_FormatInt C p_i p_base (fun r0 H2 => ∃ H0, Gh C H2 H0 ∧ K r0 H0) H) : c_strconv_FormatInt C p_i p_base K H :=
  Spec.gh (Spec.mono h fun _ H2 ⟨r0, hv, H0, hg, hk⟩ => ⟨H0, hg, r0, hv, hk⟩)
def c_value_quote (C : Ctx) (p_b : Option (Nat × Nat)) (p_s : Str) (K : Heap → Prop) (H : Heap) : Prop :=
  Spec Tryz.prog C 40 [pv p_b, sv p_s] H (fun v H2 => v = .tuple #[] ∧ K H2)
theorem c_value_quote.mono {C : Ctx} {p_b : Option (Nat × Nat)} {p_s : Str} {K K2 : Heap → Prop} {H : Heap} (h : c_value_quote C p_b p_s K H) (hk : ∀  H2, K  H2 → K2  H2) : c_value_quote C p_b p_s K2 H :=
  Spec.mono h fun _ H2 ⟨hv, h2⟩ => ⟨hv, hk H2 h2⟩
theorem c_value_quote.gh {C : Ctx} {p_b : Option (Nat × Nat)} {p_s : Str} {K : Heap → Prop} {H : Heap} (h : c_value_quote C p_b p_s (fun  H2 => ∃ H0, Gh C H2 H0 ∧ K  H0) H) : c_value_quote C p_b p_s K H :=
  Spec.gh (Spec.mono h fun _ H2 ⟨hv, H0, hg, hk⟩ => ⟨H0, hg, hv, hk⟩)
def c_strings_Builder_String (C : Ctx) (p_b : Option (Nat × Nat)) (K : Str → Heap → Prop) (H : Heap) : Prop :=
  Spec Tryz.prog C 41 [pv p_b] H (fun v H2 => ∃ (r0 : Str), v = sv r0 ∧ K r0 H2)
theorem c_strings_Builder_String.mono {C : Ctx} {p_b : Option (Nat × Nat)} {K K2 : Str → Heap → Prop} {H : Heap} (h : c_strings_Builder_String C p_b K H) (hk : ∀ r0 H2, K r0 H2 → K2 r0 H2) : c_strings_Builder_String C p_b K2 H :=
  Spec.mono h fun _ H2 ⟨r0, hv, h2⟩ => ⟨r0, hv, hk r0 H2 h2⟩
theorem c_strings_Builder_String.gh {C : Ctx} {p_b : Option (Nat × Nat)} {K : Str → Heap → Prop} {H : Heap} (h : c_strings_Builder_String C p_b (fun r0 H2 => ∃ H0, Gh C H2 H0 ∧ K r0 H0) H) : c_strings_Builder_String C p_b K H :=
  Spec.gh (Spec.mono h fun _ H2 ⟨r0, hv, H0, hg, hk⟩ => ⟨H0, hg, r0, hv, hk⟩)
def c_slices_ContainsFunc_api_Value_api_Value (C : Ctx) (p_s : Sl) (p_f : Value) (K : Bool → Heap → Prop) (H : Heap) : Prop :=
  Spec Tryz.prog C 42 [slv p_s, p_f] H (fun v H2 => ∃ (r0 : Bool), v = .bool r0 ∧ K r0 H2)
theorem c_slices_ContainsFunc_api_Value_api_Value.mono {C : Ctx} {p_s : Sl} {p_f : Value} {K K2 : Bool → Heap → Prop} {H : Heap} (h : c_slices_ContainsFunc_api_Value_api_Value C p_s p_f K H) (hk : ∀ r0 H2, K r0 H2 → K2 r0 H2) : c_slices_ContainsFunc_api_Value_api_Value C p_s p_f K2 H :=
  Spec.mono h fun _ H2 ⟨r0, hv, h2⟩ => ⟨r0, hv, hk r0 H2 h2⟩
theorem c_slices_ContainsFunc_api_Value_api_Value.gh {C : Ctx} {p_s : Sl} {p_f : Value} {K : Bool → Heap → Prop} {H : Heap} (h : c_slices_ContainsFunc_api_Value_api_Value C p_s p_f (fun r0 H2 => ∃ H0, Gh C H2 H0 ∧ K r0 H0) H) : c_slices_ContainsFunc_api_Value_api_Value C p_s p_f K H :=
  Spec.gh (Spec.mono h fun _ H2 ⟨r0, hv, H0, hg, hk⟩ => ⟨H0, hg, r0, hv, hk⟩)
def c_value_may_1 (C : Ctx) (p_v : T_api_Value) (K : Bool → Heap → Prop) (H : Heap) : Prop :=
  Spec Tryz.prog C 43 [.agg (T_api_Value.c p_v).toArray] H (fun v H2 => ∃ (r0 : Bool), v = .bool r0 ∧ K r0 H2)
theorem c_value_may_1.mono {C : Ctx} {p_v : T_api_Value} {K K2 : Bool → Heap → Prop} {H : Heap} (h : c_value_may_1 C p_v K H) (hk : ∀ r0 H2, K r0 H2 → K2 r0 H2) : c_value_may_1 C p_v K2 H :=
  Spec.mono h fun _ H2 ⟨r0, hv, h2⟩ => ⟨r0, hv, hk r0 H2 h2⟩
theorem c_value_may_1.gh {C : Ctx} {p_v : T_api_Value} {K : Bool → Heap → Prop} {H : Heap} (h : c_value_may_1 C p_v (fun r0 H2 => ∃ H0, Gh C H2 H0 ∧ K r0 H0) H) : c_value_may_1 C p_v K H :=
  Spec.gh (Spec.mono h fun _ H2 ⟨r0, hv, H0, hg, hk⟩ => ⟨H0, hg, r0, hv, hk⟩)
def c_slices_CompareFunc_api_Value_api_Value_api_Value_api_Value (C : Ctx) (p_s1 : Sl) (p_s2 : Sl) (p_cmp : Value) (K : Int → Heap → Prop) (H : Heap) : Prop :=
  Spec Tryz.prog C 44 [slv p_s1, slv p_s2, p_cmp] H (fun v H2 => ∃ (r0 : Int), v = .int .i64 r0 ∧ K r0 H2)
theorem c_slices_CompareFunc_api_Value_api_Value_api_Value_api_Value.mono {C : Ctx} {p_s1 : Sl} {p_s2 : Sl} {p_cmp : Value} {K K2 : Int → Heap → Prop} {H : Heap} (h : c_slices_CompareFunc_api_Value_api_Value_api_Value_api_Value C p_s1 p_s2 p_cmp K H) (hk : ∀ r0 H2, K r0 H2 → K2 r0 H2) : c_slices_CompareFunc_api_Value_api_Value_api_Value_api_Value C p_s1 p_s2 p_cmp K2 H :=
  Spec.mono h fun _ H2 ⟨r0, hv, h2⟩ => ⟨r0, hv, hk r0 H2 h2⟩
theorem c_slices_CompareFunc_api_Value_api_Value_api_Value_api_Value.gh {C : Ctx} {p_s1 : Sl} {p_s2 : Sl} {p_cmp : Value} {K : Int → Heap → Prop} {H : Heap} (h : c_slices_CompareFunc_api_Value_api_Value_api_Value_api_Value C p_s1 p_s2 p_cmp (fun r0 H2 => ∃ H0, Gh C H2 H0 ∧ K r0 H0) H) : c_slices_CompareFunc_api_Value_api_Value_api_Value_api_Value C p_s1 p_s2 p_cmp K H :=
  Spec.gh (Spec.mono h fun _ H2 ⟨r0, hv, H0, hg, hk⟩ => ⟨H0, hg, r0, hv, hk⟩)
def c_value_rows_1 (C : Ctx) (p_x : T_api_Value) (p_y : T_api_Value) (K : Int → Heap → Prop) (H : Heap) : Prop :=
  Spec Tryz.prog C 45 [.agg (T_api_Value.c p_x).toArray, .agg (T_api_Value.c p_y).toArray] H (fun v H2 => ∃ (r0 : Int), v = .int .i64 r0 ∧ K r0 H2)
theorem c_value_rows_1.mono {C : Ctx} {p_x : T_api_Value} {p_y : T_api_Value} {K K2 : Int → Heap → Prop} {H : Heap} (h : c_value_rows_1 C p_x p_y K H) (hk : ∀ r0 H2, K r0 H2 → K2 r0 H2) : c_value_rows_1 C p_x p_y K2 H :=
  Spec.mono h fun _ H2 ⟨r0, hv, h2⟩ => ⟨r0, hv, hk r0 H2 h2⟩
theorem c_value_rows_1.gh {C : Ctx} {p_x : T_api_Value} {p_y : T_api_Value} {K : Int → Heap → Prop} {H : Heap} (h : c_value_rows_1 C p_x p_y (fun r0 H2 => ∃ H0, Gh C H2 H0 ∧ K r0 H0) H) : c_value_rows_1 C p_x p_y K H :=
  Spec.gh (Spec.mono h fun _ H2 ⟨r0, hv, H0, hg, hk⟩ => ⟨H0, hg, r0, hv, hk⟩)
def c_value_item_cmp (C : Ctx) (p_v : T_api_Value) (p_w : T_api_Value) (K : Int → Heap → Prop) (H : Heap) : Prop :=
  Spec Tryz.prog C 46 [.agg (T_api_Value.c p_v).toArray, .agg (T_api_Value.c p_w).toArray] H (fun v H2 => ∃ (r0 : Int), v = .int .i64 r0 ∧ K r0 H2)
theorem c_value_item_cmp.mono {C : Ctx} {p_v : T_api_Value} {p_w : T_api_Value} {K K2 : Int → Heap → Prop} {H : Heap} (h : c_value_item_cmp C p_v p_w K H) (hk : ∀ r0 H2, K r0 H2 → K2 r0 H2) : c_value_item_cmp C p_v p_w K2 H :=
  Spec.mono h fun _ H2 ⟨r0, hv, h2⟩ => ⟨r0, hv, hk r0 H2 h2⟩
theorem c_value_item_cmp.gh {C : Ctx} {p_v : T_api_Value} {p_w : T_api_Value} {K : Int → Heap → Prop} {H : Heap} (h : c_value_item_cmp C p_v p_w (fun r0 H2 => ∃ H0, Gh C H2 H0 ∧ K r0 H0) H) : c_value_item_cmp C p_v p_w K H :=
  Spec.gh (Spec.mono h fun _ H2 ⟨r0, hv, H0, hg, hk⟩ => ⟨H0, hg, r0, hv, hk⟩)
def c_ref02_ints (C : Ctx) (p_a : Int) (p_b : Int) (K : Int → Heap → Prop) (H : Heap) : Prop :=
  Spec Tryz.prog C 47 [.int .i64 p_a, .int .i64 p_b] H (fun v H2 => ∃ (r0 : Int), v = .int .i64 r0 ∧ K r0 H2)
theorem c_ref02_ints.mono {C : Ctx} {p_a : Int} {p_b : Int} {K K2 : Int → Heap → Prop} {H : Heap} (h : c_ref02_ints C p_a p_b K H) (hk : ∀ r0 H2, K r0 H2 → K2 r0 H2) : c_ref02_ints C p_a p_b K2 H :=
  Spec.mono h fun _ H2 ⟨r0, hv, h2⟩ => ⟨r0, hv, hk r0 H2 h2⟩
theorem c_ref02_ints.gh {C : Ctx} {p_a : Int} {p_b : Int} {K : Int → Heap → Prop} {H : Heap} (h : c_ref02_ints C p_a p_b (fun r0 H2 => ∃ H0, Gh C H2 H0 ∧ K r0 H0) H) : c_ref02_ints C p_a p_b K H :=
  Spec.gh (Spec.mono h fun _ H2 ⟨r0, hv, H0, hg, hk⟩ => ⟨H0, hg, r0, hv, hk⟩)
def c_ref02_Depth (C : Ctx) (p_v : T_api_Value) (K : Int → Heap → Prop) (H : Heap) : Prop :=
  Spec Tryz.prog C 48 [.agg (T_api_Value.c p_v).toArray] H (fun v H2 => ∃ (r0 : Int), v = .int .i64 r0 ∧ K r0 H2)
theorem c_ref02_Depth.mono {C : Ctx} {p_v : T_api_Value} {K K2 : Int → Heap → Prop} {H : Heap} (h : c_ref02_Depth C p_v K H) (hk : ∀ r0 H2, K r0 H2 → K2 r0 H2) : c_ref02_Depth C p_v K2 H :=
  Spec.mono h fun _ H2 ⟨r0, hv, h2⟩ => ⟨r0, hv, hk r0 H2 h2⟩
theorem c_ref02_Depth.gh {C : Ctx} {p_v : T_api_Value} {K : Int → Heap → Prop} {H : Heap} (h : c_ref02_Depth C p_v (fun r0 H2 => ∃ H0, Gh C H2 H0 ∧ K r0 H0) H) : c_ref02_Depth C p_v K H :=
  Spec.gh (Spec.mono h fun _ H2 ⟨r0, hv, H0, hg, hk⟩ => ⟨H0, hg, r0, hv, hk⟩)
def c_ref02_form (C : Ctx) (p_v : T_api_Value) (K : Bool → Heap → Prop) (H : Heap) : Prop :=
  Spec Tryz.prog C 49 [.agg (T_api_Value.c p_v).toArray] H (fun v H2 => ∃ (r0 : Bool), v = .bool r0 ∧ K r0 H2)
theorem c_ref02_form.mono {C : Ctx} {p_v : T_api_Value} {K K2 : Bool → Heap → Prop} {H : Heap} (h : c_ref02_form C p_v K H) (hk : ∀ r0 H2, K r0 H2 → K2 r0 H2) : c_ref02_form C p_v K2 H :=
  Spec.mono h fun _ H2 ⟨r0, hv, h2⟩ => ⟨r0, hv, hk r0 H2 h2⟩
theorem c_ref02_form.gh {C : Ctx} {p_v : T_api_Value} {K : Bool → Heap → Prop} {H : Heap} (h : c_ref02_form C p_v (fun r0 H2 => ∃ H0, Gh C H2 H0 ∧ K r0 H0) H) : c_ref02_form C p_v K H :=
  Spec.gh (Spec.mono h fun _ H2 ⟨r0, hv, H0, hg, hk⟩ => ⟨H0, hg, r0, hv, hk⟩)
def c_ref02_fits (C : Ctx) (p_v : T_api_Value) (K : Bool → Heap → Prop) (H : Heap) : Prop :=
  Spec Tryz.prog C 50 [.agg (T_api_Value.c p_v).toArray] H (fun v H2 => ∃ (r0 : Bool), v = .bool r0 ∧ K r0 H2)
theorem c_ref02_fits.mono {C : Ctx} {p_v : T_api_Value} {K K2 : Bool → Heap → Prop} {H : Heap} (h : c_ref02_fits C p_v K H) (hk : ∀ r0 H2, K r0 H2 → K2 r0 H2) : c_ref02_fits C p_v K2 H :=
  Spec.mono h fun _ H2 ⟨r0, hv, h2⟩ => ⟨r0, hv, hk r0 H2 h2⟩
theorem c_ref02_fits.gh {C : Ctx} {p_v : T_api_Value} {K : Bool → Heap → Prop} {H : Heap} (h : c_ref02_fits C p_v (fun r0 H2 => ∃ H0, Gh C H2 H0 ∧ K r0 H0) H) : c_ref02_fits C p_v K H :=
  Spec.gh (Spec.mono h fun _ H2 ⟨r0, hv, H0, hg, hk⟩ => ⟨H0, hg, r0, hv, hk⟩)
def c_ref02_Bigs (C : Ctx) (p_a : Str) (p_b : Str) (K : Int → Heap → Prop) (H : Heap) : Prop :=
  Spec Tryz.prog C 51 [sv p_a, sv p_b] H (fun v H2 => ∃ (r0 : Int), v = .int .i64 r0 ∧ K r0 H2)
theorem c_ref02_Bigs.mono {C : Ctx} {p_a : Str} {p_b : Str} {K K2 : Int → Heap → Prop} {H : Heap} (h : c_ref02_Bigs C p_a p_b K H) (hk : ∀ r0 H2, K r0 H2 → K2 r0 H2) : c_ref02_Bigs C p_a p_b K2 H :=
  Spec.mono h fun _ H2 ⟨r0, hv, h2⟩ => ⟨r0, hv, hk r0 H2 h2⟩
theorem c_ref02_Bigs.gh {C : Ctx} {p_a : Str} {p_b : Str} {K : Int → Heap → Prop} {H : Heap} (h : c_ref02_Bigs C p_a p_b (fun r0 H2 => ∃ H0, Gh C H2 H0 ∧ K r0 H0) H) : c_ref02_Bigs C p_a p_b K H :=
  Spec.gh (Spec.mono h fun _ H2 ⟨r0, hv, H0, hg, hk⟩ => ⟨H0, hg, r0, hv, hk⟩)
def c_ref02_texts (C : Ctx) (p_a : Str) (p_b : Str) (K : Int → Heap → Prop) (H : Heap) : Prop :=
  Spec Tryz.prog C 52 [sv p_a, sv p_b] H (fun v H2 => ∃ (r0 : Int), v = .int .i64 r0 ∧ K r0 H2)
theorem c_ref02_texts.mono {C : Ctx} {p_a : Str} {p_b : Str} {K K2 : Int → Heap → Prop} {H : Heap} (h : c_ref02_texts C p_a p_b K H) (hk : ∀ r0 H2, K r0 H2 → K2 r0 H2) : c_ref02_texts C p_a p_b K2 H :=
  Spec.mono h fun _ H2 ⟨r0, hv, h2⟩ => ⟨r0, hv, hk r0 H2 h2⟩
theorem c_ref02_texts.gh {C : Ctx} {p_a : Str} {p_b : Str} {K : Int → Heap → Prop} {H : Heap} (h : c_ref02_texts C p_a p_b (fun r0 H2 => ∃ H0, Gh C H2 H0 ∧ K r0 H0) H) : c_ref02_texts C p_a p_b K H :=
  Spec.gh (Spec.mono h fun _ H2 ⟨r0, hv, H0, hg, hk⟩ => ⟨H0, hg, r0, hv, hk⟩)
def c_slices_Clone_api_Value_api_Value (C : Ctx) (p_s : Sl) (K : Sl → Heap → Prop) (H : Heap) : Prop :=
  Spec Tryz.prog C 53 [slv p_s] H (fun v H2 => ∃ (r0 : Sl), v = slv r0 ∧ K r0 H2)
theorem c_slices_Clone_api_Value_api_Value.mono {C : Ctx} {p_s : Sl} {K K2 : Sl → Heap → Prop} {H : Heap} (h : c_slices_Clone_api_Value_api_Value C p_s K H) (hk : ∀ r0 H2, K r0 H2 → K2 r0 H2) : c_slices_Clone_api_Value_api_Value C p_s K2 H :=
  Spec.mono h fun _ H2 ⟨r0, hv, h2⟩ => ⟨r0, hv, hk r0 H2 h2⟩
theorem c_slices_Clone_api_Value_api_Value.gh {C : Ctx} {p_s : Sl} {K : Sl → Heap → Prop} {H : Heap} (h : c_slices_Clone_api_Value_api_Value C p_s (fun r0 H2 => ∃ H0, Gh C H2 H0 ∧ K r0 H0) H) : c_slices_Clone_api_Value_api_Value C p_s K H :=
  Spec.gh (Spec.mono h fun _ H2 ⟨r0, hv, H0, hg, hk⟩ => ⟨H0, hg, r0, hv, hk⟩)
def c_slices_stableCmpFunc_api_Value (C : Ctx) (p_data : Sl) (p_n : Int) (p_cmp : Value) (K : Heap → Prop) (H : Heap) : Prop :=
  Spec Tryz.prog C 54 [slv p_data, .int .i64 p_n, p_cmp] H (fun v H2 => v = .tuple #[] ∧ K H2)
theorem c_slices_stableCmpFunc_api_Value.mono {C : Ctx} {p_data : Sl} {p_n : Int} {p_cmp : Value} {K K2 : Heap → Prop} {H : Heap} (h : c_slices_stableCmpFunc_api_Value C p_data p_n p_cmp K H) (hk : ∀  H2, K  H2 → K2  H2) : c_slices_stableCmpFunc_api_Value C p_data p_n p_cmp K2 H :=
  Spec.mono h fun _ H2 ⟨hv, h2⟩ => ⟨hv, hk H2 h2⟩
theorem c_slices_stableCmpFunc_api_Value.gh {C : Ctx} {p_data : Sl} {p_n : Int} {p_cmp : Value} {K : Heap → Prop} {H : Heap} (h : c_slices_stableCmpFunc_api_Value C p_data p_n p_cmp (fun  H2 => ∃ H0, Gh C H2 H0 ∧ K  H0) H) : c_slices_stableCmpFunc_api_Value C p_data p_n p_cmp K H :=
  Spec.gh (Spec.mono h fun _ H2 ⟨hv, H0, hg, hk⟩ => ⟨H0, hg, hv, hk⟩)
def c_ref02_Same (C : Ctx) (p_a : T_api_Value) (p_b : T_api_Value) (K : Bool → Heap → Prop) (H : Heap) : Prop :=
  Spec Tryz.prog C 55 [.agg (T_api_Value.c p_a).toArray, .agg (T_api_Value.c p_b).toArray] H (fun v H2 => ∃ (r0 : Bool), v = .bool r0 ∧ K r0 H2)
theorem c_ref02_Same.mono {C : Ctx} {p_a : T_api_Value} {p_b : T_api_Value} {K K2 : Bool → Heap → Prop} {H : Heap} (h : c_ref02_Same C p_a p_b K H) (hk : ∀ r0 H2, K r0 H2 → K2 r0 H2) : c_ref02_Same C p_a p_b K2 H :=
  Spec.mono h fun _ H2 ⟨r0, hv, h2⟩ => ⟨r0, hv, hk r0 H2 h2⟩
theorem c_ref02_Same.gh {C : Ctx} {p_a : T_api_Value} {p_b : T_api_Value} {K : Bool → Heap → Prop} {H : Heap} (h : c_ref02_Same C p_a p_b (fun r0 H2 => ∃ H0, Gh C H2 H0 ∧ K r0 H0) H) : c_ref02_Same C p_a p_b K H :=
  Spec.gh (Spec.mono h fun _ H2 ⟨r0, hv, H0, hg, hk⟩ => ⟨H0, hg, r0, hv, hk⟩)
def c_value_number (C : Ctx) (p_s : Str) (K : Int → Bool → Heap → Prop) (H : Heap) : Prop :=
  Spec Tryz.prog C 56 [sv p_s] H (fun v H2 => ∃ (r0 : Int) (r1 : Bool), v = .tuple #[.int .i64 r0, .bool r1] ∧ K r0 r1 H2)
theorem c_value_number.mono {C : Ctx} {p_s : Str} {K K2 : Int → Bool → Heap → Prop} {H : Heap} (h : c_value_number C p_s K H) (hk : ∀ r0 r1 H2, K r0 r1 H2 → K2 r0 r1 H2) : c_value_number C p_s K2 H :=
  Spec.mono h fun _ H2 ⟨r0, r1, hv, h2⟩ => ⟨r0, r1, hv, hk r0 r1 H2 h2⟩
theorem c_value_number.gh {C : Ctx} {p_s : Str} {K : Int → Bool → Heap → Prop} {H : Heap} (h : c_value_number C p_s (fun r0 r1 H2 => ∃ H0, Gh C H2 H0 ∧ K r0 r1 H0) H) : c_value_number C p_s K H :=
  Spec.gh (Spec.mono h fun _ H2 ⟨r0, r1, hv, H0, hg, hk⟩ => ⟨H0, hg, r0, r1, hv, hk⟩)
def c_strings_Cut (C : Ctx) (p_s : Str) (p_sep : Str) (K : Str → Str → Bool → Heap → Prop) (H : Heap) : Prop :=
  Spec Tryz.prog C 57 [sv p_s, sv p_sep] H (fun v H2 => ∃ (r0 : Str) (r1 : Str) (r2 : Bool), v = .tuple #[sv r0, sv r1, .bool r2] ∧ K r0 r1 r2 H2)
theorem c_strings_Cut.mono {C : Ctx} {p_s : Str} {p_sep : Str} {K K2 : Str → Str → Bool → Heap → Prop} {H : Heap} (h : c_strings_Cut C p_s p_sep K H) (hk : ∀ r0 r1 r2 H2, K r0 r1 r2 H2 → K2 r0 r1 r2 H2) : c_strings_Cut C p_s p_sep K2 H :=
  Spec.mono h fun _ H2 ⟨r0, r1, r2, hv, h2⟩ => ⟨r0, r1, r2, hv, hk r0 r1 r2 H2 h2⟩
theorem c_strings_Cut.gh {C : Ctx} {p_s : Str} {p_sep : Str} {K : Str → Str → Bool → Heap → Prop} {H : Heap} (h : c_strings_Cut C p_s p_sep (fun r0 r1 r2 H2 => ∃ H0, Gh C H2 H0 ∧ K r0 r1 r2 H0) H) : c_strings_Cut C p_s p_sep K H :=
  Spec.gh (Spec.mono h fun _ H2 ⟨r0, r1, r2, hv, H0, hg, hk⟩ => ⟨H0, hg, r0, r1, r2, hv, hk⟩)
def c_value_name (C : Ctx) (p_s : Str) (K : Bool → Heap → Prop) (H : Heap) : Prop :=
  Spec Tryz.prog C 58 [sv p_s] H (fun v H2 => ∃ (r0 : Bool), v = .bool r0 ∧ K r0 H2)
theorem c_value_name.mono {C : Ctx} {p_s : Str} {K K2 : Bool → Heap → Prop} {H : Heap} (h : c_value_name C p_s K H) (hk : ∀ r0 H2, K r0 H2 → K2 r0 H2) : c_value_name C p_s K2 H :=
  Spec.mono h fun _ H2 ⟨r0, hv, h2⟩ => ⟨r0, hv, hk r0 H2 h2⟩
theorem c_value_name.gh {C : Ctx} {p_s : Str} {K : Bool → Heap → Prop} {H : Heap} (h : c_value_name C p_s (fun r0 H2 => ∃ H0, Gh C H2 H0 ∧ K r0 H0) H) : c_value_name C p_s K H :=
  Spec.gh (Spec.mono h fun _ H2 ⟨r0, hv, H0, hg, hk⟩ => ⟨H0, hg, r0, hv, hk⟩)
def c_strings_Builder_copyCheck (C : Ctx) (p_b : Option (Nat × Nat)) (K : Heap → Prop) (H : Heap) : Prop :=
  Spec Tryz.prog C 59 [pv p_b] H (fun v H2 => v = .tuple #[] ∧ K H2)
theorem c_strings_Builder_copyCheck.mono {C : Ctx} {p_b : Option (Nat × Nat)} {K K2 : Heap → Prop} {H : Heap} (h : c_strings_Builder_copyCheck C p_b K H) (hk : ∀  H2, K  H2 → K2  H2) : c_strings_Builder_copyCheck C p_b K2 H :=
  Spec.mono h fun _ H2 ⟨hv, h2⟩ => ⟨hv, hk H2 h2⟩
theorem c_strings_Builder_copyCheck.gh {C : Ctx} {p_b : Option (Nat × Nat)} {K : Heap → Prop} {H : Heap} (h : c_strings_Builder_copyCheck C p_b (fun  H2 => ∃ H0, Gh C H2 H0 ∧ K  H0) H) : c_strings_Builder_copyCheck C p_b K H :=
  Spec.gh (Spec.mono h fun _ H2 ⟨hv, H0, hg, hk⟩ => ⟨H0, hg, hv, hk⟩)
def c_internal_strconv_FormatBool (C : Ctx) (p_b : Bool) (K : Str → Heap → Prop) (H : Heap) : Prop :=
  Spec Tryz.prog C 60 [.bool p_b] H (fun v H2 => ∃ (r0 : Str), v = sv r0 ∧ K r0 H2)
theorem c_internal_strconv_FormatBool.mono {C : Ctx} {p_b : Bool} {K K2 : Str → Heap → Prop} {H : Heap} (h : c_internal_strconv_FormatBool C p_b K H) (hk : ∀ r0 H2, K r0 H2 → K2 r0 H2) : c_internal_strconv_FormatBool C p_b K2 H :=
  Spec.mono h fun _ H2 ⟨r0, hv, h2⟩ => ⟨r0, hv, hk r0 H2 h2⟩
theorem c_internal_strconv_FormatBool.gh {C : Ctx} {p_b : Bool} {K : Str → Heap → Prop} {H : Heap} (h : c_internal_strconv_FormatBool C p_b (fun r0 H2 => ∃ H0, Gh C H2 H0 ∧ K r0 H0) H) : c_internal_strconv_FormatBool C p_b K H :=
  Spec.gh (Spec.mono h fun _ H2 ⟨r0, hv, H0, hg, hk⟩ => ⟨H0, hg, r0, hv, hk⟩)
def c_slices_IndexFunc_api_Value_api_Value (C : Ctx) (p_s : Sl) (p_f : Value) (K : Int → Heap → Prop) (H : Heap) : Prop :=
  Spec Tryz.prog C 62 [slv p_s, p_f] H (fun v H2 => ∃ (r0 : Int), v = .int .i64 r0 ∧ K r0 H2)
theorem c_slices_IndexFunc_api_Value_api_Value.mono {C : Ctx} {p_s : Sl} {p_f : Value} {K K2 : Int → Heap → Prop} {H : Heap} (h : c_slices_IndexFunc_api_Value_api_Value C p_s p_f K H) (hk : ∀ r0 H2, K r0 H2 → K2 r0 H2) : c_slices_IndexFunc_api_Value_api_Value C p_s p_f K2 H :=
  Spec.mono h fun _ H2 ⟨r0, hv, h2⟩ => ⟨r0, hv, hk r0 H2 h2⟩
theorem c_slices_IndexFunc_api_Value_api_Value.gh {C : Ctx} {p_s : Sl} {p_f : Value} {K : Int → Heap → Prop} {H : Heap} (h : c_slices_IndexFunc_api_Value_api_Value C p_s p_f (fun r0 H2 => ∃ H0, Gh C H2 H0 ∧ K r0 H0) H) : c_slices_IndexFunc_api_Value_api_Value C p_s p_f K H :=
  Spec.gh (Spec.mono h fun _ H2 ⟨r0, hv, H0, hg, hk⟩ => ⟨H0, hg, r0, hv, hk⟩)
def c_cmp_Compare_uint8 (C : Ctx) (p_x : Int) (p_y : Int) (K : Int → Heap → Prop) (H : Heap) : Prop :=
  Spec Tryz.prog C 63 [.int .u8 p_x, .int .u8 p_y] H (fun v H2 => ∃ (r0 : Int), v = .int .i64 r0 ∧ K r0 H2)
theorem c_cmp_Compare_uint8.mono {C : Ctx} {p_x : Int} {p_y : Int} {K K2 : Int → Heap → Prop} {H : Heap} (h : c_cmp_Compare_uint8 C p_x p_y K H) (hk : ∀ r0 H2, K r0 H2 → K2 r0 H2) : c_cmp_Compare_uint8 C p_x p_y K2 H :=
  Spec.mono h fun _ H2 ⟨r0, hv, h2⟩ => ⟨r0, hv, hk r0 H2 h2⟩
theorem c_cmp_Compare_uint8.gh {C : Ctx} {p_x : Int} {p_y : Int} {K : Int → Heap → Prop} {H : Heap} (h : c_cmp_Compare_uint8 C p_x p_y (fun r0 H2 => ∃ H0, Gh C H2 H0 ∧ K r0 H0) H) : c_cmp_Compare_uint8 C p_x p_y K H :=
  Spec.gh (Spec.mono h fun _ H2 ⟨r0, hv, H0, hg, hk⟩ => ⟨H0, hg, r0, hv, hk⟩)
def c_value_bigs (C : Ctx) (p_a : Str) (p_b : Str) (K : Int → Heap → Prop) (H : Heap) : Prop :=
  Spec Tryz.prog C 64 [sv p_a, sv p_b] H (fun v H2 => ∃ (r0 : Int), v = .int .i64 r0 ∧ K r0 H2)
theorem c_value_bigs.mono {C : Ctx} {p_a : Str} {p_b : Str} {K K2 : Int → Heap → Prop} {H : Heap} (h : c_value_bigs C p_a p_b K H) (hk : ∀ r0 H2, K r0 H2 → K2 r0 H2) : c_value_bigs C p_a p_b K2 H :=
  Spec.mono h fun _ H2 ⟨r0, hv, h2⟩ => ⟨r0, hv, hk r0 H2 h2⟩
theorem c_value_bigs.gh {C : Ctx} {p_a : Str} {p_b : Str} {K : Int → Heap → Prop} {H : Heap} (h : c_value_bigs C p_a p_b (fun r0 H2 => ∃ H0, Gh C H2 H0 ∧ K r0 H0) H) : c_value_bigs C p_a p_b K H :=
  Spec.gh (Spec.mono h fun _ H2 ⟨r0, hv, H0, hg, hk⟩ => ⟨H0, hg, r0, hv, hk⟩)
def c_cmp_Compare_string (C : Ctx) (p_x : Str) (p_y : Str) (K : Int → Heap → Prop) (H : Heap) : Prop :=
  Spec Tryz.prog C 65 [sv p_x, sv p_y] H (fun v H2 => ∃ (r0 : Int), v = .int .i64 r0 ∧ K r0 H2)
theorem c_cmp_Compare_string.mono {C : Ctx} {p_x : Str} {p_y : Str} {K K2 : Int → Heap → Prop} {H : Heap} (h : c_cmp_Compare_string C p_x p_y K H) (hk : ∀ r0 H2, K r0 H2 → K2 r0 H2) : c_cmp_Compare_string C p_x p_y K2 H :=
  Spec.mono h fun _ H2 ⟨r0, hv, h2⟩ => ⟨r0, hv, hk r0 H2 h2⟩
theorem c_cmp_Compare_string.gh {C : Ctx} {p_x : Str} {p_y : Str} {K : Int → Heap → Prop} {H : Heap} (h : c_cmp_Compare_string C p_x p_y (fun r0 H2 => ∃ H0, Gh C H2 H0 ∧ K r0 H0) H) : c_cmp_Compare_string C p_x p_y K H :=
  Spec.gh (Spec.mono h fun _ H2 ⟨r0, hv, H0, hg, hk⟩ => ⟨H0, hg, r0, hv, hk⟩)
def c_cmp_Or_int (C : Ctx) (p_vals : Sl) (K : Int → Heap → Prop) (H : Heap) : Prop :=
  Spec Tryz.prog C 66 [slv p_vals] H (fun v H2 => ∃ (r0 : Int), v = .int .i64 r0 ∧ K r0 H2)
theorem c_cmp_Or_int.mono {C : Ctx} {p_vals : Sl} {K K2 : Int → Heap → Prop} {H : Heap} (h : c_cmp_Or_int C p_vals K H) (hk : ∀ r0 H2, K r0 H2 → K2 r0 H2) : c_cmp_Or_int C p_vals K2 H :=
  Spec.mono h fun _ H2 ⟨r0, hv, h2⟩ => ⟨r0, hv, hk r0 H2 h2⟩
theorem c_cmp_Or_int.gh {C : Ctx} {p_vals : Sl} {K : Int → Heap → Prop} {H : Heap} (h : c_cmp_Or_int C p_vals (fun r0 H2 => ∃ H0, Gh C H2 H0 ∧ K r0 H0) H) : c_cmp_Or_int C p_vals K H :=
  Spec.gh (Spec.mono h fun _ H2 ⟨r0, hv, H0, hg, hk⟩ => ⟨H0, hg, r0, hv, hk⟩)
def c_cmp_Compare_int64 (C : Ctx) (p_x : Int) (p_y : Int) (K : Int → Heap → Prop) (H : Heap) : Prop :=
  Spec Tryz.prog C 67 [.int .i64 p_x, .int .i64 p_y] H (fun v H2 => ∃ (r0 : Int), v = .int .i64 r0 ∧ K r0 H2)
theorem c_cmp_Compare_int64.mono {C : Ctx} {p_x : Int} {p_y : Int} {K K2 : Int → Heap → Prop} {H : Heap} (h : c_cmp_Compare_int64 C p_x p_y K H) (hk : ∀ r0 H2, K r0 H2 → K2 r0 H2) : c_cmp_Compare_int64 C p_x p_y K2 H :=
  Spec.mono h fun _ H2 ⟨r0, hv, h2⟩ => ⟨r0, hv, hk r0 H2 h2⟩
theorem c_cmp_Compare_int64.gh {C : Ctx} {p_x : Int} {p_y : Int} {K : Int → Heap → Prop} {H : Heap} (h : c_cmp_Compare_int64 C p_x p_y (fun r0 H2 => ∃ H0, Gh C H2 H0 ∧ K r0 H0) H) : c_cmp_Compare_int64 C p_x p_y K H :=
  Spec.gh (Spec.mono h fun _ H2 ⟨r0, hv, H0, hg, hk⟩ => ⟨H0, hg, r0, hv, hk⟩)
def c_ref02_Number (C : Ctx) (p_s : Str) (K : Bool → Heap → Prop) (H : Heap) : Prop :=
  Spec Tryz.prog C 68 [sv p_s] H (fun v H2 => ∃ (r0 : Bool), v = .bool r0 ∧ K r0 H2)
theorem c_ref02_Number.mono {C : Ctx} {p_s : Str} {K K2 : Bool → Heap → Prop} {H : Heap} (h : c_ref02_Number C p_s K H) (hk : ∀ r0 H2, K r0 H2 → K2 r0 H2) : c_ref02_Number C p_s K2 H :=
  Spec.mono h fun _ H2 ⟨r0, hv, h2⟩ => ⟨r0, hv, hk r0 H2 h2⟩
theorem c_ref02_Number.gh {C : Ctx} {p_s : Str} {K : Bool → Heap → Prop} {H : Heap} (h : c_ref02_Number C p_s (fun r0 H2 => ∃ H0, Gh C H2 H0 ∧ K r0 H0) H) : c_ref02_Number C p_s K H :=
  Spec.gh (Spec.mono h fun _ H2 ⟨r0, hv, H0, hg, hk⟩ => ⟨H0, hg, r0, hv, hk⟩)
def c_ref02_Names (C : Ctx) (p_s : Str) (K : Bool → Heap → Prop) (H : Heap) : Prop :=
  Spec Tryz.prog C 69 [sv p_s] H (fun v H2 => ∃ (r0 : Bool), v = .bool r0 ∧ K r0 H2)
theorem c_ref02_Names.mono {C : Ctx} {p_s : Str} {K K2 : Bool → Heap → Prop} {H : Heap} (h : c_ref02_Names C p_s K H) (hk : ∀ r0 H2, K r0 H2 → K2 r0 H2) : c_ref02_Names C p_s K2 H :=
  Spec.mono h fun _ H2 ⟨r0, hv, h2⟩ => ⟨r0, hv, hk r0 H2 h2⟩
theorem c_ref02_Names.gh {C : Ctx} {p_s : Str} {K : Bool → Heap → Prop} {H : Heap} (h : c_ref02_Names C p_s (fun r0 H2 => ∃ H0, Gh C H2 H0 ∧ K r0 H0) H) : c_ref02_Names C p_s K H :=
  Spec.gh (Spec.mono h fun _ H2 ⟨r0, hv, H0, hg, hk⟩ => ⟨H0, hg, r0, hv, hk⟩)
def c_ref02_Digits (C : Ctx) (p_s : Str) (K : Int → Heap → Prop) (H : Heap) : Prop :=
  Spec Tryz.prog C 70 [sv p_s] H (fun v H2 => ∃ (r0 : Int), v = .int .i64 r0 ∧ K r0 H2)
theorem c_ref02_Digits.mono {C : Ctx} {p_s : Str} {K K2 : Int → Heap → Prop} {H : Heap} (h : c_ref02_Digits C p_s K H) (hk : ∀ r0 H2, K r0 H2 → K2 r0 H2) : c_ref02_Digits C p_s K2 H :=
  Spec.mono h fun _ H2 ⟨r0, hv, h2⟩ => ⟨r0, hv, hk r0 H2 h2⟩
theorem c_ref02_Digits.gh {C : Ctx} {p_s : Str} {K : Int → Heap → Prop} {H : Heap} (h : c_ref02_Digits C p_s (fun r0 H2 => ∃ H0, Gh C H2 H0 ∧ K r0 H0) H) : c_ref02_Digits C p_s K H :=
  Spec.gh (Spec.mono h fun _ H2 ⟨r0, hv, H0, hg, hk⟩ => ⟨H0, hg, r0, hv, hk⟩)
def c_slices_insertionSortCmpFunc_api_Value (C : Ctx) (p_data : Sl) (p_a : Int) (p_b : Int) (p_cmp : Value) (K : Heap → Prop) (H : Heap) : Prop :=
  Spec Tryz.prog C 71 [slv p_data, .int .i64 p_a, .int .i64 p_b, p_cmp] H (fun v H2 => v = .tuple #[] ∧ K H2)
theorem c_slices_insertionSortCmpFunc_api_Value.mono {C : Ctx} {p_data : Sl} {p_a : Int} {p_b : Int} {p_cmp : Value} {K K2 : Heap → Prop} {H : Heap} (h : c_slices_insertionSortCmpFunc_api_Value C p_data p_a p_b p_cmp K H) (hk : ∀  H2, K  H2 → K2  H2) : c_slices_insertionSortCmpFunc_api_Value C p_data p_a p_b p_cmp K2 H :=
  Spec.mono h fun _ H2 ⟨hv, h2⟩ => ⟨hv, hk H2 h2⟩
theorem c_slices_insertionSortCmpFunc_api_Value.gh {C : Ctx} {p_data : Sl} {p_a : Int} {p_b : Int} {p_cmp : Value} {K : Heap → Prop} {H : Heap} (h : c_slices_insertionSortCmpFunc_api_Value C p_data p_a p_b p_cmp (fun  H2 => ∃ H0, Gh C H2 H0 ∧ K  H0) H) : c_slices_insertionSortCmpFunc_api_Value C p_data p_a p_b p_cmp K H :=
  Spec.gh (Spec.mono h fun _ H2 ⟨hv, H0, hg, hk⟩ => ⟨H0, hg, hv, hk⟩)
def c_slices_symMergeCmpFunc_api_Value (C : Ctx) (p_data : Sl) (p_a : Int) (p_m : Int) (p_b : Int) (p_cmp : Value) (K : Heap → Prop) (H : Heap) : Prop :=
  Spec Tryz.prog C 72 [slv p_data, .int .i64 p_a, .int .i64 p_m, .int .i64 p_b, p_cmp] H (fun v H2 => v = .tuple #[] ∧ K H2)
theorem c_slices_symMergeCmpFunc_api_Value.mono {C : Ctx} {p_data : Sl} {p_a : Int} {p_m : Int} {p_b : Int} {p_cmp : Value} {K K2 : Heap → Prop} {H : Heap} (h : c_slices_symMergeCmpFunc_api_Value C p_data p_a p_m p_b p_cmp K H) (hk : ∀  H2, K  H2 → K2  H2) : c_slices_symMergeCmpFunc_api_Value C p_data p_a p_m p_b p_cmp K2 H :=
  Spec.mono h fun _ H2 ⟨hv, h2⟩ => ⟨hv, hk H2 h2⟩
theorem c_slices_symMergeCmpFunc_api_Value.gh {C : Ctx} {p_data : Sl} {p_a : Int} {p_m : Int} {p_b : Int} {p_cmp : Value} {K : Heap → Prop} {H : Heap} (h : c_slices_symMergeCmpFunc_api_Value C p_data p_a p_m p_b p_cmp (fun  H2 => ∃ H0, Gh C H2 H0 ∧ K  H0) H) : c_slices_symMergeCmpFunc_api_Value C p_data p_a p_m p_b p_cmp K H :=
  Spec.gh (Spec.mono h fun _ H2 ⟨hv, H0, hg, hk⟩ => ⟨H0, hg, hv, hk⟩)
def c_strings_TrimPrefix (C : Ctx) (p_s : Str) (p_prefix : Str) (K : Str → Heap → Prop) (H : Heap) : Prop :=
  Spec Tryz.prog C 73 [sv p_s, sv p_prefix] H (fun v H2 => ∃ (r0 : Str), v = sv r0 ∧ K r0 H2)
theorem c_strings_TrimPrefix.mono {C : Ctx} {p_s : Str} {p_prefix : Str} {K K2 : Str → Heap → Prop} {H : Heap} (h : c_strings_TrimPrefix C p_s p_prefix K H) (hk : ∀ r0 H2, K r0 H2 → K2 r0 H2) : c_strings_TrimPrefix C p_s p_prefix K2 H :=
  Spec.mono h fun _ H2 ⟨r0, hv, h2⟩ => ⟨r0, hv, hk r0 H2 h2⟩
theorem c_strings_TrimPrefix.gh {C : Ctx} {p_s : Str} {p_prefix : Str} {K : Str → Heap → Prop} {H : Heap} (h : c_strings_TrimPrefix C p_s p_prefix (fun r0 H2 => ∃ H0, Gh C H2 H0 ∧ K r0 H0) H) : c_strings_TrimPrefix C p_s p_prefix K H :=
  Spec.gh (Spec.mono h fun _ H2 ⟨r0, hv, H0, hg, hk⟩ => ⟨H0, hg, r0, hv, hk⟩)
def c_strings_Trim (C : Ctx) (p_s : Str) (p_cutset : Str) (K : Str → Heap → Prop) (H : Heap) : Prop :=
  Spec Tryz.prog C 74 [sv p_s, sv p_cutset] H (fun v H2 => ∃ (r0 : Str), v = sv r0 ∧ K r0 H2)
theorem c_strings_Trim.mono {C : Ctx} {p_s : Str} {p_cutset : Str} {K K2 : Str → Heap → Prop} {H : Heap} (h : c_strings_Trim C p_s p_cutset K H) (hk : ∀ r0 H2, K r0 H2 → K2 r0 H2) : c_strings_Trim C p_s p_cutset K2 H :=
  Spec.mono h fun _ H2 ⟨r0, hv, h2⟩ => ⟨r0, hv, hk r0 H2 h2⟩
theorem c_strings_Trim.gh {C : Ctx} {p_s : Str} {p_cutset : Str} {K : Str → Heap → Prop} {H : Heap} (h : c_strings_Trim C p_s p_cutset (fun r0 H2 => ∃ H0, Gh C H2 H0 ∧ K r0 H0) H) : c_strings_Trim C p_s p_cutset K H :=
  Spec.gh (Spec.mono h fun _ H2 ⟨r0, hv, H0, hg, hk⟩ => ⟨H0, hg, r0, hv, hk⟩)
def c_internal_stringslite_Cut (C : Ctx) (p_s : Str) (p_sep : Str) (K : Str → Str → Bool → Heap → Prop) (H : Heap) : Prop :=
  Spec Tryz.prog C 75 [sv p_s, sv p_sep] H (fun v H2 => ∃ (r0 : Str) (r1 : Str) (r2 : Bool), v = .tuple #[sv r0, sv r1, .bool r2] ∧ K r0 r1 r2 H2)
theorem c_internal_stringslite_Cut.mono {C : Ctx} {p_s : Str} {p_sep : Str} {K K2 : Str → Str → Bool → Heap → Prop} {H : Heap} (h : c_internal_stringslite_Cut C p_s p_sep K H) (hk : ∀ r0 r1 r2 H2, K r0 r1 r2 H2 → K2 r0 r1 r2 H2) : c_internal_stringslite_Cut C p_s p_sep K2 H :=
  Spec.mono h fun _ H2 ⟨r0, r1, r2, hv, h2⟩ => ⟨r0, r1, r2, hv, hk r0 r1 r2 H2 h2⟩
theorem c_internal_stringslite_Cut.gh {C : Ctx} {p_s : Str} {p_sep : Str} {K : Str → Str → Bool → Heap → Prop} {H : Heap} (h : c_internal_stringslite_Cut C p_s p_sep (fun r0 r1 r2 H2 => ∃ H0, Gh C H2 H0 ∧ K r0 r1 r2 H0) H) : c_internal_stringslite_Cut C p_s p_sep K H :=
  Spec.gh (Spec.mono h fun _ H2 ⟨r0, r1, r2, hv, H0, hg, hk⟩ => ⟨H0, hg, r0, r1, r2, hv, hk⟩)
def c_cmp_isNaN_uint8 (C : Ctx) (p_x : Int) (K : Bool → Heap → Prop) (H : Heap) : Prop :=
  Spec Tryz.prog C 81 [.int .u8 p_x] H (fun v H2 => ∃ (r0 : Bool), v = .bool r0 ∧ K r0 H2)
theorem c_cmp_isNaN_uint8.mono {C : Ctx} {p_x : Int} {K K2 : Bool → Heap → Prop} {H : Heap} (h : c_cmp_isNaN_uint8 C p_x K H) (hk : ∀ r0 H2, K r0 H2 → K2 r0 H2) : c_cmp_isNaN_uint8 C p_x K2 H :=
  Spec.mono h fun _ H2 ⟨r0, hv, h2⟩ => ⟨r0, hv, hk r0 H2 h2⟩
theorem c_cmp_isNaN_uint8.gh {C : Ctx} {p_x : Int} {K : Bool → Heap → Prop} {H : Heap} (h : c_cmp_isNaN_uint8 C p_x (fun r0 H2 => ∃ H0, Gh C H2 H0 ∧ K r0 H0) H) : c_cmp_isNaN_uint8 C p_x K H :=
  Spec.gh (Spec.mono h fun _ H2 ⟨r0, hv, H0, hg, hk⟩ => ⟨H0, hg, r0, hv, hk⟩)
def c_strings_HasPrefix (C : Ctx) (p_s : Str) (p_prefix : Str) (K : Bool → Heap → Prop) (H : Heap) : Prop :=
  Spec Tryz.prog C 82 [sv p_s, sv p_prefix] H (fun v H2 => ∃ (r0 : Bool), v = .bool r0 ∧ K r0 H2)
theorem c_strings_HasPrefix.mono {C : Ctx} {p_s : Str} {p_prefix : Str} {K K2 : Bool → Heap → Prop} {H : Heap} (h : c_strings_HasPrefix C p_s p_prefix K H) (hk : ∀ r0 H2, K r0 H2 → K2 r0 H2) : c_strings_HasPrefix C p_s p_prefix K2 H :=
  Spec.mono h fun _ H2 ⟨r0, hv, h2⟩ => ⟨r0, hv, hk r0 H2 h2⟩
theorem c_strings_HasPrefix.gh {C : Ctx} {p_s : Str} {p_prefix : Str} {K : Bool → Heap → Prop} {H : Heap} (h : c_strings_HasPrefix C p_s p_prefix (fun r0 H2 => ∃ H0, Gh C H2 H0 ∧ K r0 H0) H) : c_strings_HasPrefix C p_s p_prefix K H :=
  Spec.gh (Spec.mono h fun _ H2 ⟨r0, hv, H0, hg, hk⟩ => ⟨H0, hg, r0, hv, hk⟩)
def c_cmp_Compare_int (C : Ctx) (p_x : Int) (p_y : Int) (K : Int → Heap → Prop) (H : Heap) : Prop :=
  Spec Tryz.prog C 83 [.int .i64 p_x, .int .i64 p_y] H (fun v H2 => ∃ (r0 : Int), v = .int .i64 r0 ∧ K r0 H2)
theorem c_cmp_Compare_int.mono {C : Ctx} {p_x : Int} {p_y : Int} {K K2 : Int → Heap → Prop} {H : Heap} (h : c_cmp_Compare_int C p_x p_y K H) (hk : ∀ r0 H2, K r0 H2 → K2 r0 H2) : c_cmp_Compare_int C p_x p_y K2 H :=
  Spec.mono h fun _ H2 ⟨r0, hv, h2⟩ => ⟨r0, hv, hk r0 H2 h2⟩
theorem c_cmp_Compare_int.gh {C : Ctx} {p_x : Int} {p_y : Int} {K : Int → Heap → Prop} {H : Heap} (h : c_cmp_Compare_int C p_x p_y (fun r0 H2 => ∃ H0, Gh C H2 H0 ∧ K r0 H0) H) : c_cmp_Compare_int C p_x p_y K H :=
  Spec.gh (Spec.mono h fun _ H2 ⟨r0, hv, H0, hg, hk⟩ => ⟨H0, hg, r0, hv, hk⟩)
def c_cmp_isNaN_string (C : Ctx) (p_x : Str) (K : Bool → Heap → Prop) (H : Heap) : Prop :=
  Spec Tryz.prog C 84 [sv p_x] H (fun v H2 => ∃ (r0 : Bool), v = .bool r0 ∧ K r0 H2)
theorem c_cmp_isNaN_string.mono {C : Ctx} {p_x : Str} {K K2 : Bool → Heap → Prop} {H : Heap} (h : c_cmp_isNaN_string C p_x K H) (hk : ∀ r0 H2, K r0 H2 → K2 r0 H2) : c_cmp_isNaN_string C p_x K2 H :=
  Spec.mono h fun _ H2 ⟨r0, hv, h2⟩ => ⟨r0, hv, hk r0 H2 h2⟩
theorem c_cmp_isNaN_string.gh {C : Ctx} {p_x : Str} {K : Bool → Heap → Prop} {H : Heap} (h : c_cmp_isNaN_string C p_x (fun r0 H2 => ∃ H0, Gh C H2 H0 ∧ K r0 H0) H) : c_cmp_isNaN_string C p_x K H :=
  Spec.gh (Spec.mono h fun _ H2 ⟨r0, hv, H0, hg, hk⟩ => ⟨H0, hg, r0, hv, hk⟩)
def c_cmp_isNaN_int64 (C : Ctx) (p_x : Int) (K : Bool → Heap → Prop) (H : Heap) : Prop :=
  Spec Tryz.prog C 85 [.int .i64 p_x] H (fun v H2 => ∃ (r0 : Bool), v = .bool r0 ∧ K r0 H2)
theorem c_cmp_isNaN_int64.mono {C : Ctx} {p_x : Int} {K K2 : Bool → Heap → Prop} {H : Heap} (h : c_cmp_isNaN_int64 C p_x K H) (hk : ∀ r0 H2, K r0 H2 → K2 r0 H2) : c_cmp_isNaN_int64 C p_x K2 H :=
  Spec.mono h fun _ H2 ⟨r0, hv, h2⟩ => ⟨r0, hv, hk r0 H2 h2⟩
theorem c_cmp_isNaN_int64.gh {C : Ctx} {p_x : Int} {K : Bool → Heap → Prop} {H : Heap} (h : c_cmp_isNaN_int64 C p_x (fun r0 H2 => ∃ H0, Gh C H2 H0 ∧ K r0 H0) H) : c_cmp_isNaN_int64 C p_x K H :=
  Spec.gh (Spec.mono h fun _ H2 ⟨r0, hv, H0, hg, hk⟩ => ⟨H0, hg, r0, hv, hk⟩)
def c_ref02_Name (C : Ctx) (p_s : Str) (K : Bool → Heap → Prop) (H : Heap) : Prop :=
  Spec Tryz.prog C 86 [sv p_s] H (fun v H2 => ∃ (r0 : Bool), v = .bool r0 ∧ K r0 H2)
theorem c_ref02_Name.mono {C : Ctx} {p_s : Str} {K K2 : Bool → Heap → Prop} {H : Heap} (h : c_ref02_Name C p_s K H) (hk : ∀ r0 H2, K r0 H2 → K2 r0 H2) : c_ref02_Name C p_s K2 H :=
  Spec.mono h fun _ H2 ⟨r0, hv, h2⟩ => ⟨r0, hv, hk r0 H2 h2⟩
theorem c_ref02_Name.gh {C : Ctx} {p_s : Str} {K : Bool → Heap → Prop} {H : Heap} (h : c_ref02_Name C p_s (fun r0 H2 => ∃ H0, Gh C H2 H0 ∧ K r0 H0) H) : c_ref02_Name C p_s K H :=
  Spec.gh (Spec.mono h fun _ H2 ⟨r0, hv, H0, hg, hk⟩ => ⟨H0, hg, r0, hv, hk⟩)
def c_slices_rotateCmpFunc_api_Value (C : Ctx) (p_data : Sl) (p_a : Int) (p_m : Int) (p_b : Int) (p_cmp : Value) (K : Heap → Prop) (H : Heap) : Prop :=
  Spec Tryz.prog C 87 [slv p_data, .int .i64 p_a, .int .i64 p_m, .int .i64 p_b, p_cmp] H (fun v H2 => v = .tuple #[] ∧ K H2)
theorem c_slices_rotateCmpFunc_api_Value.mono {C : Ctx} {p_data : Sl} {p_a : Int} {p_m : Int} {p_b : Int} {p_cmp : Value} {K K2 : Heap → Prop} {H : Heap} (h : c_slices_rotateCmpFunc_api_Value C p_data p_a p_m p_b p_cmp K H) (hk : ∀  H2, K  H2 → K2  H2) : c_slices_rotateCmpFunc_api_Value C p_data p_a p_m p_b p_cmp K2 H :=
  Spec.mono h fun _ H2 ⟨hv, h2⟩ => ⟨hv, hk H2 h2⟩
theorem c_slices_rotateCmpFunc_api_Value.gh {C : Ctx} {p_data : Sl} {p_a : Int} {p_m : Int} {p_b : Int} {p_cmp : Value} {K : Heap → Prop} {H : Heap} (h : c_slices_rotateCmpFunc_api_Value C p_data p_a p_m p_b p_cmp (fun  H2 => ∃ H0, Gh C H2 H0 ∧ K  H0) H) : c_slices_rotateCmpFunc_api_Value C p_data p_a p_m p_b p_cmp K H :=
  Spec.gh (Spec.mono h fun _ H2 ⟨hv, H0, hg, hk⟩ => ⟨H0, hg, hv, hk⟩)
def c_internal_stringslite_TrimPrefix (C : Ctx) (p_s : Str) (p_prefix : Str) (K : Str → Heap → Prop) (H : Heap) : Prop :=
  Spec Tryz.prog C 88 [sv p_s, sv p_prefix] H (fun v H2 => ∃ (r0 : Str), v = sv r0 ∧ K r0 H2)
theorem c_internal_stringslite_TrimPrefix.mono {C : Ctx} {p_s : Str} {p_prefix : Str} {K K2 : Str → Heap → Prop} {H : Heap} (h : c_internal_stringslite_TrimPrefix C p_s p_prefix K H) (hk : ∀ r0 H2, K r0 H2 → K2 r0 H2) : c_internal_stringslite_TrimPrefix C p_s p_prefix K2 H :=
  Spec.mono h fun _ H2 ⟨r0, hv, h2⟩ => ⟨r0, hv, hk r0 H2 h2⟩
theorem c_internal_stringslite_TrimPrefix.gh {C : Ctx} {p_s : Str} {p_prefix : Str} {K : Str → Heap → Prop} {H : Heap} (h : c_internal_stringslite_TrimPrefix C p_s p_prefix (fun r0 H2 => ∃ H0, Gh C H2 H0 ∧ K r0 H0) H) : c_internal_stringslite_TrimPrefix C p_s p_prefix K H :=
  Spec.gh (Spec.mono h fun _ H2 ⟨r0, hv, H0, hg, hk⟩ => ⟨H0, hg, r0, hv, hk⟩)
def c_strings_trimLeftByte (C : Ctx) (p_s : Str) (p_c : Int) (K : Str → Heap → Prop) (H : Heap) : Prop :=
  Spec Tryz.prog C 89 [sv p_s, .int .u8 p_c] H (fun v H2 => ∃ (r0 : Str), v = sv r0 ∧ K r0 H2)
theorem c_strings_trimLeftByte.mono {C : Ctx} {p_s : Str} {p_c : Int} {K K2 : Str → Heap → Prop} {H : Heap} (h : c_strings_trimLeftByte C p_s p_c K H) (hk : ∀ r0 H2, K r0 H2 → K2 r0 H2) : c_strings_trimLeftByte C p_s p_c K2 H :=
  Spec.mono h fun _ H2 ⟨r0, hv, h2⟩ => ⟨r0, hv, hk r0 H2 h2⟩
theorem c_strings_trimLeftByte.gh {C : Ctx} {p_s : Str} {p_c : Int} {K : Str → Heap → Prop} {H : Heap} (h : c_strings_trimLeftByte C p_s p_c (fun r0 H2 => ∃ H0, Gh C H2 H0 ∧ K r0 H0) H) : c_strings_trimLeftByte C p_s p_c K H :=
  Spec.gh (Spec.mono h fun _ H2 ⟨r0, hv, H0, hg, hk⟩ => ⟨H0, hg, r0, hv, hk⟩)
def c_strings_trimRightByte (C : Ctx) (p_s : Str) (p_c : Int) (K : Str → Heap → Prop) (H : Heap) : Prop :=
  Spec Tryz.prog C 90 [sv p_s, .int .u8 p_c] H (fun v H2 => ∃ (r0 : Str), v = sv r0 ∧ K r0 H2)
theorem c_strings_trimRightByte.mono {C : Ctx} {p_s : Str} {p_c : Int} {K K2 : Str → Heap → Prop} {H : Heap} (h : c_strings_trimRightByte C p_s p_c K H) (hk : ∀ r0 H2, K r0 H2 → K2 r0 H2) : c_strings_trimRightByte C p_s p_c K2 H :=
  Spec.mono h fun _ H2 ⟨r0, hv, h2⟩ => ⟨r0, hv, hk r0 H2 h2⟩
theorem c_strings_trimRightByte.gh {C : Ctx} {p_s : Str} {p_c : Int} {K : Str → Heap → Prop} {H : Heap} (h : c_strings_trimRightByte C p_s p_c (fun r0 H2 => ∃ H0, Gh C H2 H0 ∧ K r0 H0) H) : c_strings_trimRightByte C p_s p_c K H :=
  Spec.gh (Spec.mono h fun _ H2 ⟨r0, hv, H0, hg, hk⟩ => ⟨H0, hg, r0, hv, hk⟩)
def c_strings_makeASCIISet (C : Ctx) (p_chars : Str) (K : List Value → Bool → Heap → Prop) (H : Heap) : Prop :=
  Spec Tryz.prog C 91 [sv p_chars] H (fun v H2 => ∃ (r0 : List Value) (r1 : Bool), v = .tuple #[.agg (List.toArray r0), .bool r1] ∧ K r0 r1 H2)
theorem c_strings_makeASCIISet.mono {C : Ctx} {p_chars : Str} {K K2 : List Value → Bool → Heap → Prop} {H : Heap} (h : c_strings_makeASCIISet C p_chars K H) (hk : ∀ r0 r1 H2, K r0 r1 H2 → K2 r0 r1 H2) : c_strings_makeASCIISet C p_chars K2 H :=
  Spec.mono h fun _ H2 ⟨r0, r1, hv, h2⟩ => ⟨r0, r1, hv, hk r0 r1 H2 h2⟩
theorem c_strings_makeASCIISet.gh {C : Ctx} {p_chars : Str} {K : List Value → Bool → Heap → Prop} {H : Heap} (h : c_strings_makeASCIISet C p_chars (fun r0 r1 H2 => ∃ H0, Gh C H2 H0 ∧ K r0 r1 H0) H) : c_strings_makeASCIISet C p_chars K H :=
  Spec.gh (Spec.mono h fun _ H2 ⟨r0, r1, hv, H0, hg, hk⟩ => ⟨H0, hg, r0, r1, hv, hk⟩)
def c_strings_trimLeftASCII (C : Ctx) (p_s : Str) (p_as : Option (Nat × Nat)) (K : Str → Heap → Prop) (H : Heap) : Prop :=
  Spec Tryz.prog C 92 [sv p_s, pv p_as] H (fun v H2 => ∃ (r0 : Str), v = sv r0 ∧ K r0 H2)
theorem c_strings_trimLeftASCII.mono {C : Ctx} {p_s : Str} {p_as : Option (Nat × Nat)} {K K2 : Str → Heap → Prop} {H : Heap} (h : c_strings_trimLeftASCII C p_s p_as K H) (hk : ∀ r0 H2, K r0 H2 → K2 r0 H2) : c_strings_trimLeftASCII C p_s p_as K2 H :=
  Spec.mono h fun _ H2 ⟨r0, hv, h2⟩ => ⟨r0, hv, hk r0 H2 h2⟩
theorem c_strings_trimLeftASCII.gh {C : Ctx} {p_s : Str} {p_as : Option (Nat × Nat)} {K : Str → Heap → Prop} {H : Heap} (h : c_strings_trimLeftASCII C p_s p_as (fun r0 H2 => ∃ H0, Gh C H2 H0 ∧ K r0 H0) H) : c_strings_trimLeftASCII C p_s p_as K H :=
  Spec.gh (Spec.mono h fun _ H2 ⟨r0, hv, H0, hg, hk⟩ => ⟨H0, hg, r0, hv, hk⟩)
def c_strings_trimRightASCII (C : Ctx) (p_s : Str) (p_as : Option (Nat × Nat)) (K : Str → Heap → Prop) (H : Heap) : Prop :=
  Spec Tryz.prog C 93 [sv p_s, pv p_as] H (fun v H2 => ∃ (r0 : Str), v = sv r0 ∧ K r0 H2)
theorem c_strings_trimRightASCII.mono {C : Ctx} {p_s : Str} {p_as : Option (Nat × Nat)} {K K2 : Str → Heap → Prop} {H : Heap} (h : c_strings_trimRightASCII C p_s p_as K H) (hk : ∀ r0 H2, K r0 H2 → K2 r0 H2) : c_strings_trimRightASCII C p_s p_as K2 H :=
  Spec.mono h fun _ H2 ⟨r0, hv, h2⟩ => ⟨r0, hv, hk r0 H2 h2⟩
theorem c_strings_trimRightASCII.gh {C : Ctx} {p_s : Str} {p_as : Option (Nat × Nat)} {K : Str → Heap → Prop} {H : Heap} (h : c_strings_trimRightASCII C p_s p_as (fun r0 H2 => ∃ H0, Gh C H2 H0 ∧ K r0 H0) H) : c_strings_trimRightASCII C p_s p_as K H :=
  Spec.gh (Spec.mono h fun _ H2 ⟨r0, hv, H0, hg, hk⟩ => ⟨H0, hg, r0, hv, hk⟩)
def c_strings_trimLeftUnicode (C : Ctx) (p_s : Str) (p_cutset : Str) (K : Str → Heap → Prop) (H : Heap) : Prop :=
  Spec Tryz.prog C 94 [sv p_s, sv p_cutset] H (fun v H2 => ∃ (r0 : Str), v = sv r0 ∧ K r0 H2)
theorem c_strings_trimLeftUnicode.mono {C : Ctx} {p_s : Str} {p_cutset : Str} {K K2 : Str → Heap → Prop} {H : Heap} (h : c_strings_trimLeftUnicode C p_s p_cutset K H) (hk : ∀ r0 H2, K r0 H2 → K2 r0 H2) : c_strings_trimLeftUnicode C p_s p_cutset K2 H :=
  Spec.mono h fun _ H2 ⟨r0, hv, h2⟩ => ⟨r0, hv, hk r0 H2 h2⟩
theorem c_strings_trimLeftUnicode.gh {C : Ctx} {p_s : Str} {p_cutset : Str} {K : Str → Heap → Prop} {H : Heap} (h : c_strings_trimLeftUnicode C p_s p_cutset (fun r0 H2 => ∃ H0, Gh C H2 H0 ∧ K r0 H0) H) : c_strings_trimLeftUnicode C p_s p_cutset K H :=
  Spec.gh (Spec.mono h fun _ H2 ⟨r0, hv, H0, hg, hk⟩ => ⟨H0, hg, r0, hv, hk⟩)
def c_strings_trimRightUnicode (C : Ctx) (p_s : Str) (p_cutset : Str) (K : Str → Heap → Prop) (H : Heap) : Prop :=
  Spec Tryz.prog C 95 [sv p_s, sv p_cutset] H (fun v H2 => ∃ (r0 : Str), v = sv r0 ∧ K r0 H2)
theorem c_strings_trimRightUnicode.mono {C : Ctx} {p_s : Str} {p_cutset : Str} {K K2 : Str → Heap → Prop} {H : Heap} (h : c_strings_trimRightUnicode C p_s p_cutset K H) (hk : ∀ r0 H2, K r0 H2 → K2 r0 H2) : c_strings_trimRightUnicode C p_s p_cutset K2 H :=
  Spec.mono h fun _ H2 ⟨r0, hv, h2⟩ => ⟨r0, hv, hk r0 H2 h2⟩
theorem c_strings_trimRightUnicode.gh {C : Ctx} {p_s : Str} {p_cutset : Str} {K : Str → Heap → Prop} {H : Heap} (h : c_strings_trimRightUnicode C p_s p_cutset (fun r0 H2 => ∃ H0, Gh C H2 H0 ∧ K r0 H0) H) : c_strings_trimRightUnicode C p_s p_cutset K H :=
  Spec.gh (Spec.mono h fun _ H2 ⟨r0, hv, H0, hg, hk⟩ => ⟨H0, hg, r0, hv, hk⟩)
def c_internal_stringslite_Index (C : Ctx) (p_s : Str) (p_substr : Str) (K : Int → Heap → Prop) (H : Heap) : Prop :=
  Spec Tryz.prog C 96 [sv p_s, sv p_substr] H (fun v H2 => ∃ (r0 : Int), v = .int .i64 r0 ∧ K r0 H2)
theorem c_internal_stringslite_Index.mono {C : Ctx} {p_s : Str} {p_substr : Str} {K K2 : Int → Heap → Prop} {H : Heap} (h : c_internal_stringslite_Index C p_s p_substr K H) (hk : ∀ r0 H2, K r0 H2 → K2 r0 H2) : c_internal_stringslite_Index C p_s p_substr K2 H :=
  Spec.mono h fun _ H2 ⟨r0, hv, h2⟩ => ⟨r0, hv, hk r0 H2 h2⟩
theorem c_internal_stringslite_Index.gh {C : Ctx} {p_s : Str} {p_substr : Str} {K : Int → Heap → Prop} {H : Heap} (h : c_internal_stringslite_Index C p_s p_substr (fun r0 H2 => ∃ H0, Gh C H2 H0 ∧ K r0 H0) H) : c_internal_stringslite_Index C p_s p_substr K H :=
  Spec.gh (Spec.mono h fun _ H2 ⟨r0, hv, H0, hg, hk⟩ => ⟨H0, hg, r0, hv, hk⟩)
def c_internal_stringslite_HasPrefix (C : Ctx) (p_s : Str) (p_prefix : Str) (K : Bool → Heap → Prop) (H : Heap) : Prop :=
  Spec Tryz.prog C 102 [sv p_s, sv p_prefix] H (fun v H2 => ∃ (r0 : Bool), v = .bool r0 ∧ K r0 H2)
theorem c_internal_stringslite_HasPrefix.mono {C : Ctx} {p_s : Str} {p_prefix : Str} {K K2 : Bool → Heap → Prop} {H : Heap} (h : c_internal_stringslite_HasPrefix C p_s p_prefix K H) (hk : ∀ r0 H2, K r0 H2 → K2 r0 H2) : c_internal_stringslite_HasPrefix C p_s p_prefix K2 H :=
  Spec.mono h fun _ H2 ⟨r0, hv, h2⟩ => ⟨r0, hv, hk r0 H2 h2⟩
theorem c_internal_stringslite_HasPrefix.gh {C : Ctx} {p_s : Str} {p_prefix : Str} {K : Bool → Heap → Prop} {H : Heap} (h : c_internal_stringslite_HasPrefix C p_s p_prefix (fun r0 H2 => ∃ H0, Gh C H2 H0 ∧ K r0 H0) H) : c_internal_stringslite_HasPrefix C p_s p_prefix K H :=
  Spec.gh (Spec.mono h fun _ H2 ⟨r0, hv, H0, hg, hk⟩ => ⟨H0, hg, r0, hv, hk⟩)
def c_cmp_isNaN_int (C : Ctx) (p_x : Int) (K : Bool → Heap → Prop) (H : Heap) : Prop :=
  Spec Tryz.prog C 103 [.int .i64 p_x] H (fun v H2 => ∃ (r0 : Bool), v = .bool r0 ∧ K r0 H2)
theorem c_cmp_isNaN_int.mono {C : Ctx} {p_x : Int} {K K2 : Bool → Heap → Prop} {H : Heap} (h : c_cmp_isNaN_int C p_x K H) (hk : ∀ r0 H2, K r0 H2 → K2 r0 H2) : c_cmp_isNaN_int C p_x K2 H :=
  Spec.mono h fun _ H2 ⟨r0, hv, h2⟩ => ⟨r0, hv, hk r0 H2 h2⟩
theorem c_cmp_isNaN_int.gh {C : Ctx} {p_x : Int} {K : Bool → Heap → Prop} {H : Heap} (h : c_cmp_isNaN_int C p_x (fun r0 H2 => ∃ H0, Gh C H2 H0 ∧ K r0 H0) H) : c_cmp_isNaN_int C p_x K H :=
  Spec.gh (Spec.mono h fun _ H2 ⟨r0, hv, H0, hg, hk⟩ => ⟨H0, hg, r0, hv, hk⟩)
def c_ref02_letter (C : Ctx) (p_c : Int) (K : Bool → Heap → Prop) (H : Heap) : Prop :=
  Spec Tryz.prog C 104 [.int .u8 p_c] H (fun v H2 => ∃ (r0 : Bool), v = .bool r0 ∧ K r0 H2)
theorem c_ref02_letter.mono {C : Ctx} {p_c : Int} {K K2 : Bool → Heap → Prop} {H : Heap} (h : c_ref02_letter C p_c K H) (hk : ∀ r0 H2, K r0 H2 → K2 r0 H2) : c_ref02_letter C p_c K2 H :=
  Spec.mono h fun _ H2 ⟨r0, hv, h2⟩ => ⟨r0, hv, hk r0 H2 h2⟩
theorem c_ref02_letter.gh {C : Ctx} {p_c : Int} {K : Bool → Heap → Prop} {H : Heap} (h : c_ref02_letter C p_c (fun r0 H2 => ∃ H0, Gh C H2 H0 ∧ K r0 H0) H) : c_ref02_letter C p_c K H :=
  Spec.gh (Spec.mono h fun _ H2 ⟨r0, hv, H0, hg, hk⟩ => ⟨H0, hg, r0, hv, hk⟩)
def c_slices_swapRangeCmpFunc_api_Value (C : Ctx) (p_data : Sl) (p_a : Int) (p_b : Int) (p_n : Int) (p_cmp : Value) (K : Heap → Prop) (H : Heap) : Prop :=
  Spec Tryz.prog C 105 [slv p_data, .int .i64 p_a, .int .i64 p_b, .int .i64 p_n, p_cmp] H (fun v H2 => v = .tuple #[] ∧ K H2)
theorem c_slices_swapRangeCmpFunc_api_Value.mono {C : Ctx} {p_data : Sl} {p_a : Int} {p_b : Int} {p_n : Int} {p_cmp : Value} {K K2 : Heap → Prop} {H : Heap} (h : c_slices_swapRangeCmpFunc_api_Value C p_data p_a p_b p_n p_cmp K H) (hk : ∀  H2, K  H2 → K2  H2) : c_slices_swapRangeCmpFunc_api_Value C p_data p_a p_b p_n p_cmp K2 H :=
  Spec.mono h fun _ H2 ⟨hv, h2⟩ => ⟨hv, hk H2 h2⟩
theorem c_slices_swapRangeCmpFunc_api_Value.gh {C : Ctx} {p_data : Sl} {p_a : Int} {p_b : Int} {p_n : Int} {p_cmp : Value} {K : Heap → Prop} {H : Heap} (h : c_slices_swapRangeCmpFunc_api_Value C p_data p_a p_b p_n p_cmp (fun  H2 => ∃ H0, Gh C H2 H0 ∧ K  H0) H) : c_slices_swapRangeCmpFunc_api_Value C p_data p_a p_b p_n p_cmp K H :=
  Spec.gh (Spec.mono h fun _ H2 ⟨hv, H0, hg, hk⟩ => ⟨H0, hg, hv, hk⟩)
def c_strings_asciiSet_contains (C : Ctx) (p_as : Option (Nat × Nat)) (p_c : Int) (K : Bool → Heap → Prop) (H : Heap) : Prop :=
  Spec Tryz.prog C 106 [pv p_as, .int .u8 p_c] H (fun v H2 => ∃ (r0 : Bool), v = .bool r0 ∧ K r0 H2)
theorem c_strings_asciiSet_contains.mono {C : Ctx} {p_as : Option (Nat × Nat)} {p_c : Int} {K K2 : Bool → Heap → Prop} {H : Heap} (h : c_strings_asciiSet_contains C p_as p_c K H) (hk : ∀ r0 H2, K r0 H2 → K2 r0 H2) : c_strings_asciiSet_contains C p_as p_c K2 H :=
  Spec.mono h fun _ H2 ⟨r0, hv, h2⟩ => ⟨r0, hv, hk r0 H2 h2⟩
theorem c_strings_asciiSet_contains.gh {C : Ctx} {p_as : Option (Nat × Nat)} {p_c : Int} {K : Bool → Heap → Prop} {H : Heap} (h : c_strings_asciiSet_contains C p_as p_c (fun r0 H2 => ∃ H0, Gh C H2 H0 ∧ K r0 H0) H) : c_strings_asciiSet_contains C p_as p_c K H :=
  Spec.gh (Spec.mono h fun _ H2 ⟨r0, hv, H0, hg, hk⟩ => ⟨H0, hg, r0, hv, hk⟩)
def c_internal_stringslite_IndexByte (C : Ctx) (p_s : Str) (p_c : Int) (K : Int → Heap → Prop) (H : Heap) : Prop :=
  Spec Tryz.prog C 110 [sv p_s, .int .u8 p_c] H (fun v H2 => ∃ (r0 : Int), v = .int .i64 r0 ∧ K r0 H2)
theorem c_internal_stringslite_IndexByte.mono {C : Ctx} {p_s : Str} {p_c : Int} {K K2 : Int → Heap → Prop} {H : Heap} (h : c_internal_stringslite_IndexByte C p_s p_c K H) (hk : ∀ r0 H2, K r0 H2 → K2 r0 H2) : c_internal_stringslite_IndexByte C p_s p_c K2 H :=
  Spec.mono h fun _ H2 ⟨r0, hv, h2⟩ => ⟨r0, hv, hk r0 H2 h2⟩
theorem c_internal_stringslite_IndexByte.gh {C : Ctx} {p_s : Str} {p_c : Int} {K : Int → Heap → Prop} {H : Heap} (h : c_internal_stringslite_IndexByte C p_s p_c (fun r0 H2 => ∃ H0, Gh C H2 H0 ∧ K r0 H0) H) : c_internal_stringslite_IndexByte C p_s p_c K H :=
  Spec.gh (Spec.mono h fun _ H2 ⟨r0, hv, H0, hg, hk⟩ => ⟨H0, hg, r0, hv, hk⟩)
def c_internal_bytealg_Cutover (C : Ctx) (p_n : Int) (K : Int → Heap → Prop) (H : Heap) : Prop :=
  Spec Tryz.prog C 112 [.int .i64 p_n] H (fun v H2 => ∃ (r0 : Int), v = .int .i64 r0 ∧ K r0 H2)
theorem c_internal_bytealg_Cutover.mono {C : Ctx} {p_n : Int} {K K2 : Int → Heap → Prop} {H : Heap} (h : c_internal_bytealg_Cutover C p_n K H) (hk : ∀ r0 H2, K r0 H2 → K2 r0 H2) : c_internal_bytealg_Cutover C p_n K2 H :=
  Spec.mono h fun _ H2 ⟨r0, hv, h2⟩ => ⟨r0, hv, hk r0 H2 h2⟩
theorem c_internal_bytealg_Cutover.gh {C : Ctx} {p_n : Int} {K : Int → Heap → Prop} {H : Heap} (h : c_internal_bytealg_Cutover C p_n (fun r0 H2 => ∃ H0, Gh C H2 H0 ∧ K r0 H0) H) : c_internal_bytealg_Cutover C p_n K H :=
  Spec.gh (Spec.mono h fun _ H2 ⟨r0, hv, H0, hg, hk⟩ => ⟨H0, hg, r0, hv, hk⟩)
def c_internal_bytealg_IndexRabinKarp_string (C : Ctx) (p_s : Str) (p_sep : Str) (K : Int → Heap → Prop) (H : Heap) : Prop :=
  Spec Tryz.prog C 113 [sv p_s, sv p_sep] H (fun v H2 => ∃ (r0 : Int), v = .int .i64 r0 ∧ K r0 H2)
theorem c_internal_bytealg_IndexRabinKarp_string.mono {C : Ctx} {p_s : Str} {p_sep : Str} {K K2 : Int → Heap → Prop} {H : Heap} (h : c_internal_bytealg_IndexRabinKarp_string C p_s p_sep K H) (hk : ∀ r0 H2, K r0 H2 → K2 r0 H2) : c_internal_bytealg_IndexRabinKarp_string C p_s p_sep K2 H :=
  Spec.mono h fun _ H2 ⟨r0, hv, h2⟩ => ⟨r0, hv, hk r0 H2 h2⟩
theorem c_internal_bytealg_IndexRabinKarp_string.gh {C : Ctx} {p_s : Str} {p_sep : Str} {K : Int → Heap → Prop} {H : Heap} (h : c_internal_bytealg_IndexRabinKarp_string C p_s p_sep (fun r0 H2 => ∃ H0, Gh C H2 H0 ∧ K r0 H0) H) : c_internal_bytealg_IndexRabinKarp_string C p_s p_sep K H :=
  Spec.gh (Spec.mono h fun _ H2 ⟨r0, hv, H0, hg, hk⟩ => ⟨H0, hg, r0, hv, hk⟩)
def sh_law02_ValueSorts (C : Ctx) (p_l : Sl) (K : Bool → Heap → Prop) (H : Heap) : Prop :=
  lp (α := Int × Int) (0, 0) H (fun x1 J2 H3 =>
 ift ((decide ((x1.2 : Int) < (Sl.len p_l : Int))) && (decide ((x1.1 : Int) < 40)))
 (jn (α := Int) (fun x7 H8 =>
 J2 (x7, (w .i64 (x1.2 + 1))) H8)
 (fun J6 => ixa p_l x1.2 fun p10 =>
 ldL H3 (p10.1, p10.2 + (x1.2 : Int).toNat * 1) fun x15 =>
 c_law02_heavy C x15 (fun r17 H18 =>
 ift r17
 (J6 40 H18)
 (J6 (w .i64 (x1.1 + 1)) H18)) H3))
 (ift (decide ((x1.1 : Int) ≥ 40))
 (c_law02_awake C (fun r21 H22 =>
 K r21 H22) H3)
 (lp (α := Sl × Int) (Sl.nil, 0) H3 (fun x23 J24 H25 =>
 ift (decide ((x23.2 : Int) < (Sl.len p_l : Int)))
 (ixa p_l x23.2 fun p27 =>
 ldL H25 (p27.1, p27.2 + (x23.2 : Int).toNat * 1) fun x32 =>
 c_ref02_Own C x32 (fun r34 H35 =>
 apd ([slv Sl.nil]) 24 x23.1 ([slv r34]) 1 (fun r36 H37 =>
 J24 (r36, (w .i64 (x23.2 + 1))) H37) H35) H25)
 (c_value_Sort C x23.1 (fun r38 H39 =>
 c_ref02_Sort C p_l (fun r40 H41 =>
 c_ref02_SameRows C r38 r40 (fun r42 H43 =>
 jn (α := Bool) (fun b44 H50 =>
 ift b44
 (K false H50)
 (lp (α := Int) 0 H50 (fun x52 J53 H54 =>
 ift (decide ((x52 : Int) < (Sl.len r38 : Int)))
 (ixa r38 x52 fun p56 =>
 ldL H54 (p56.1, p56.2 + (x52 : Int).toNat * 1) fun x61 =>
 c_law02_spoil C x61 (fun H63 =>
 ixa r38 x52 fun p64 =>
 st (p64.1, p64.2 + (x52 : Int).toNat * 1) (slv Sl.nil) (fun H69 =>
 J53 (w .i64 (x52 + 1)) H69) H63) H54)
 (c_ref02_SameRows C x23.1 p_l (fun r70 H71 =>
 jn (α := Bool) (fun b72 H78 =>
 K b72 H78)
 (fun J73 => ift r70
 (c_law02_awake C (fun r76 H77 =>
 J73 r76 H77) H71)
 (J73 false H71))) H54))))
 (fun J45 => ift (!r42)
 (J45 true H43)
 (c_ref02_SameRows C x23.1 p_l (fun r48 H49 =>
 J45 (!r48) H49) H43))) H41) H39) H25)))))

theorem ad_law02_ValueSorts (C : Ctx) (p_l : Sl) (K : Bool → Heap → Prop) (H : Heap) (h : sh_law02_ValueSorts C p_l K H) : c_law02_ValueSorts C p_l K H := by
  refine Spec.enter Tryz.func4 rfl Tryz.ntmps4 rfl ?_
  refine GC.sub [(0, slv p_l)] ⟨rfl, trivial⟩ ?_
  refine GC.seq ?_
  refine GC.region ?_
  refine GL.val trivial rfl (OV.assign (v := .bool false) rfl) ?_
  refine GL.nil ?_
  refine GC.seq ?_
  refine GC.region ?_
  refine GL.val trivial rfl (OV.assign (v := .int .i64 0) rfl) ?_
  refine GL.nil ?_
  refine GC.seq ?_
  refine GC.seq ?_
  refine GC.region ?_
  refine GL.val trivial rfl (OV.assign (v := .int .i64 0) rfl) ?_
  refine GL.nil ?_
  refine GC.block ?_
  refine GC.loop (α := Int × Int) h (fun x1 => [(3, .int .i64 x1.1), (4, .int .i64 x1.2), (0, slv p_l)]) ⟨rfl, rfl, rfl, trivial⟩ ?_
  intro x1 H3 J2 h
  refine GC.seq ?_
  refine GC.seq ?_
  refine GC.region ?_
  refine GL.val trivial rfl (OV.move (v := .int .i64 x1.2) rfl) ?_
  refine GL.val trivial rfl (OV.move (v := slv p_l) rfl) ?_
  refine GL.val trivial rfl (OV.lenSl (s := p_l) rfl rfl) ?_
  refine GL.val trivial rfl (OV.ibin (v := .bool (decide ((x1.2 : Int) < (Sl.len p_l : Int)))) rfl rfl rfl) ?_
  refine GL.val trivial rfl (OV.move (v := .bool (decide ((x1.2 : Int) < (Sl.len p_l : Int)))) rfl) ?_
  refine GL.cut0 3 [(17, .bool ((decide ((x1.2 : Int) < (Sl.len p_l : Int))) && (decide ((x1.1 : Int) < 40)))), (0, slv p_l), (3, .int .i64 x1.1), (4, .int .i64 x1.2)] ?_ ?_
  · rcases Bool.eq_false_or_eq_true (decide ((x1.2 : Int) < (Sl.len p_l : Int))) with hc4 | hc4
    · skip
      refine GL.val ⟨_, _, rfl, rfl, hc4⟩ rfl (OV.move (v := .int .i64 x1.1) rfl) ?_
      refine GL.val ⟨_, _, rfl, rfl, hc4⟩ rfl (OV.ibin (v := .bool (decide ((x1.1 : Int) < 40))) rfl rfl rfl) ?_
      refine GL.val trivial rfl (OV.pickT (b := decide ((x1.2 : Int) < (Sl.len p_l : Int))) (v := .bool (decide ((x1.1 : Int) < 40))) rfl hc4 rfl) ?_
      exact GL.jump0 (fun _ _ h => h) () rfl ⟨(by rw [hc4]; rfl), rfl, rfl, rfl, trivial⟩
    · skip
      refine GL.skip ⟨_, rfl, .inl ⟨_, rfl, hc4⟩⟩ rfl ?_
      refine GL.skip ⟨_, rfl, .inl ⟨_, rfl, hc4⟩⟩ rfl ?_
      refine GL.val trivial rfl (OV.pickF (b := decide ((x1.2 : Int) < (Sl.len p_l : Int))) (v := .bool false) rfl hc4 rfl) ?_
      exact GL.jump0 (fun _ _ h => h) () rfl ⟨(by rw [hc4]; rfl), rfl, rfl, rfl, trivial⟩
  refine GL.nil ?_
  refine GC.cond (b := (decide ((x1.2 : Int) < (Sl.len p_l : Int))) && (decide ((x1.1 : Int) < 40))) rfl (fun hc5 => ?_) (fun hc5 => ?_)
  · replace h := And.left h hc5
    refine GC.skip ?_
    obtain ⟨J6, h, hR9⟩ := h
    refine GC.join (α := Int) J6 (fun x7 => [(3, .int .i64 x7), (0, slv p_l), (4, .int .i64 x1.2)]) ?_ ?_
    · skip
      refine GC.block ?_
      refine GC.seq ?_
      refine GC.region ?_
      refine GL.val trivial rfl (OV.move (v := .int .i64 x1.1) rfl) ?_
      refine GL.val trivial rfl (OV.ibin (v := .int .i64 (w .i64 (x1.1 + 1))) rfl rfl rfl) ?_
      refine GL.val trivial rfl (OV.assign (v := .int .i64 (w .i64 (x1.1 + 1))) rfl) ?_
      refine GL.nil ?_
      refine GC.seq ?_
      refine GC.region ?_
      refine GL.val trivial rfl (OV.move (v := slv p_l) rfl) ?_
      refine GL.val trivial rfl (OV.move (v := .int .i64 x1.2) rfl) ?_
      obtain ⟨p10, ha11, hb12, hc13, hd14, h⟩ := h
      refine GL.val trivial rfl (OV.indexAddr (s := p_l) rfl rfl rfl rfl ha11 hb12 hc13 hd14) ?_
      obtain ⟨x15, hr16, h⟩ := h
      refine GL.val trivial rfl (OV.load (p := (p10.1, p10.2 + (x1.2 : Int).toNat * 1)) rfl rfl hr16) ?_
      refine GL.call h trivial rfl ok_law02_heavy (vs := [slv x15]) rfl ?_
      rintro _ H18 ⟨r17, rfl, h⟩
      refine GL.nil ?_
      refine GC.cond (b := r17) rfl (fun hc19 => ?_) (fun hc19 => ?_)
      · replace h := And.left h hc19
        refine GC.region ?_
        refine GL.val trivial rfl (OV.assign (v := .int .i64 40) rfl) ?_
        exact GL.jump (fun _ _ h => h) 40 h ⟨rfl, rfl, rfl, trivial⟩
      · replace h := And.right h hc19
        exact GC.jump (fun _ _ h => h) (w .i64 (x1.1 + 1)) h ⟨rfl, rfl, rfl, trivial⟩
    · intro x7 H8 h
      replace h := hR9 x7 H8 h
      refine GC.region ?_
      refine GL.val trivial rfl (OV.move (v := .int .i64 x1.2) rfl) ?_
      refine GL.val trivial rfl (OV.ibin (v := .int .i64 (w .i64 (x1.2 + 1))) rfl rfl rfl) ?_
      refine GL.val trivial rfl (OV.assign (v := .int .i64 (w .i64 (x1.2 + 1))) rfl) ?_
      exact GL.jump (fun _ _ h => h) (x7, (w .i64 (x1.2 + 1))) h ⟨rfl, rfl, rfl, trivial⟩
  · replace h := And.right h hc5
    refine GC.exit_to (fun _ _ h => h) ?_
    refine GC.seq ?_
    refine GC.seq ?_
    refine GC.region ?_
    refine GL.val trivial rfl (OV.move (v := .int .i64 x1.1) rfl) ?_
    refine GL.val trivial rfl (OV.ibin (v := .bool (decide ((x1.1 : Int) ≥ 40))) rfl rfl rfl) ?_
    refine GL.nil ?_
    refine GC.cond (b := decide ((x1.1 : Int) ≥ 40)) rfl (fun hc20 => ?_) (fun hc20 => ?_)
    · replace h := And.left h hc20
      refine GC.seq ?_
      refine GC.region ?_
      refine GL.call h trivial rfl ok_law02_awake (vs := []) rfl ?_
      rintro _ H22 ⟨r21, rfl, h⟩
      refine GL.val trivial rfl (OV.assign (v := .bool r21) rfl) ?_
      refine GL.nil ?_
      exact GC.ret (fun _ _ hf hs => post_tmp1 rfl rfl hf hs ⟨r21, rfl, h⟩)
    · replace h := And.right h hc20
      refine GC.skip ?_
      refine GC.seq ?_
      refine GC.region ?_
      refine GL.val trivial rfl (OV.assign (v := slv Sl.nil) rfl) ?_
      refine GL.nil ?_
      refine GC.seq ?_
      refine GC.seq ?_
      refine GC.region ?_
      refine GL.val trivial rfl (OV.assign (v := .int .i64 0) rfl) ?_
      refine GL.nil ?_
      refine GC.block ?_
      refine GC.loop (α := Sl × Int) h (fun x23 => [(5, slv x23.1), (6, .int .i64 x23.2), (0, slv p_l)]) ⟨rfl, rfl, rfl, trivial⟩ ?_
      intro x23 H25 J24 h
      refine GC.seq ?_
      refine GC.seq ?_
      refine GC.region ?_
      refine GL.val trivial rfl (OV.move (v := .int .i64 x23.2) rfl) ?_
      refine GL.val trivial rfl (OV.move (v := slv p_l) rfl) ?_
      refine GL.val trivial rfl (OV.lenSl (s := p_l) rfl rfl) ?_
      refine GL.val trivial rfl (OV.ibin (v := .bool (decide ((x23.2 : Int) < (Sl.len p_l : Int)))) rfl rfl rfl) ?_
      refine GL.nil ?_
      refine GC.cond (b := decide ((x23.2 : Int) < (Sl.len p_l : Int))) rfl (fun hc26 => ?_) (fun hc26 => ?_)
      · replace h := And.left h hc26
        refine GC.skip ?_
        refine GC.seq ?_
        refine GC.block ?_
        refine GC.region ?_
        refine GL.val trivial rfl (OV.move (v := slv x23.1) rfl) ?_
        refine GL.val trivial rfl (OV.move (v := slv p_l) rfl) ?_
        refine GL.val trivial rfl (OV.move (v := .int .i64 x23.2) rfl) ?_
        obtain ⟨p27, ha28, hb29, hc30, hd31, h⟩ := h
        refine GL.val trivial rfl (OV.indexAddr (s := p_l) rfl rfl rfl rfl ha28 hb29 hc30 hd31) ?_
        obtain ⟨x32, hr33, h⟩ := h
        refine GL.val trivial rfl (OV.load (p := (p27.1, p27.2 + (x23.2 : Int).toNat * 1)) rfl rfl hr33) ?_
        refine GL.call h trivial rfl ok_ref02_Own (vs := [slv x32]) rfl ?_
        rintro _ H35 ⟨r34, rfl, h⟩
        refine GL.appendLit (s := x23.1) (ys := [slv r34]) (zc := [slv Sl.nil]) (bytes := 24) h trivial rfl (fun _ => trivial) rfl (fun _ => rfl) (fun _ => rfl) (vs := [(0, slv r34)]) rfl ⟨22, fun _ => by kernel_rfl⟩ ⟨⟨_, _, _, rfl, rfl, rfl, rfl, rfl, rfl⟩⟩ rfl rfl ?_
        intro _ r36 H37 h
        refine GL.val trivial rfl (OV.assign (v := slv r36) rfl) ?_
        refine GL.nil_to (fun _ _ h => h) ?_
        refine GC.region ?_
        refine GL.val trivial rfl (OV.move (v := .int .i64 x23.2) rfl) ?_
        refine GL.val trivial rfl (OV.ibin (v := .int .i64 (w .i64 (x23.2 + 1))) rfl rfl rfl) ?_
        refine GL.val trivial rfl (OV.assign (v := .int .i64 (w .i64 (x23.2 + 1))) rfl) ?_
        exact GL.jump (fun _ _ h => h) (r36, (w .i64 (x23.2 + 1))) h ⟨rfl, rfl, rfl, trivial⟩
      · replace h := And.right h hc26
        refine GC.exit_to (fun _ _ h => h) ?_
        refine GC.seq ?_
        refine GC.region ?_
        refine GL.val trivial rfl (OV.move (v := slv x23.1) rfl) ?_
        refine GL.call h trivial rfl ok_value_Sort (vs := [slv x23.1]) rfl ?_
        rintro _ H39 ⟨r38, rfl, h⟩
        refine GL.val trivial rfl (OV.assign (v := slv r38) rfl) ?_
        refine GL.nil ?_
        refine GC.seq ?_
        refine GC.region ?_
        refine GL.val trivial rfl (OV.move (v := slv p_l) rfl) ?_
        refine GL.call h trivial rfl ok_ref02_Sort (vs := [slv p_l]) rfl ?_
        rintro _ H41 ⟨r40, rfl, h⟩
        refine GL.val trivial rfl (OV.assign (v := slv r40) rfl) ?_
        refine GL.nil ?_
        refine GC.seq ?_
        refine GC.seq ?_
        refine GC.region ?_
        refine GL.val trivial rfl (OV.move (v := slv r38) rfl) ?_
        refine GL.val trivial rfl (OV.move (v := slv r40) rfl) ?_
        refine GL.call h trivial rfl ok_ref02_SameRows (vs := [slv r38, slv r40]) rfl ?_
        rintro _ H43 ⟨r42, rfl, h⟩
        refine GL.val trivial rfl (OV.not rfl) ?_
        refine GL.val trivial rfl (OV.move (v := .bool (!r42)) rfl) ?_
        obtain ⟨J45, h, hR46⟩ := h
        refine GL.cut (α := Bool) 5 J45 (fun b44 => [(57, .bool b44), (0, slv p_l), (5, slv x23.1), (7, slv r38)]) ?_ ?_
        · rcases Bool.eq_false_or_eq_true (!r42) with hc47 | hc47
          · skip
            replace h := And.left h hc47
            refine GL.skip ⟨_, rfl, .inl ⟨_, rfl, hc47⟩⟩ rfl ?_
            refine GL.skip ⟨_, rfl, .inl ⟨_, rfl, hc47⟩⟩ rfl ?_
            refine GL.skip ⟨_, rfl, .inl ⟨_, rfl, hc47⟩⟩ rfl ?_
            refine GL.skip ⟨_, rfl, .inl ⟨_, rfl, hc47⟩⟩ rfl ?_
            refine GL.val trivial rfl (OV.pickT (b := !r42) (v := .bool true) rfl hc47 rfl) ?_
            exact GL.jump (fun _ _ h => h) true h ⟨rfl, rfl, rfl, rfl, trivial⟩
          · skip
            replace h := And.right h hc47
            refine GL.val ⟨_, _, rfl, rfl, hc47⟩ rfl (OV.move (v := slv x23.1) rfl) ?_
            refine GL.val ⟨_, _, rfl, rfl, hc47⟩ rfl (OV.move (v := slv p_l) rfl) ?_
            refine GL.call h ⟨_, _, rfl, rfl, hc47⟩ rfl ok_ref02_SameRows (vs := [slv x23.1, slv p_l]) rfl ?_
            rintro _ H49 ⟨r48, rfl, h⟩
            refine GL.val ⟨_, _, rfl, rfl, hc47⟩ rfl (OV.not rfl) ?_
            refine GL.val trivial rfl (OV.pickF (b := !r42) (v := .bool (!r48)) rfl hc47 rfl) ?_
            exact GL.jump (fun _ _ h => h) (!r48) h ⟨rfl, rfl, rfl, rfl, trivial⟩
        intro b44 H50 h
        replace h := hR46 b44 H50 h
        refine GL.nil ?_
        refine GC.cond (b := b44) rfl (fun hc51 => ?_) (fun hc51 => ?_)
        · replace h := And.left h hc51
          refine GC.seq ?_
          refine GC.region ?_
          refine GL.val trivial rfl (OV.assign (v := .bool false) rfl) ?_
          refine GL.nil ?_
          exact GC.ret (fun _ _ hf hs => post_tmp1 rfl rfl hf hs ⟨false, rfl, h⟩)
        · replace h := And.right h hc51
          refine GC.skip ?_
          refine GC.seq ?_
          refine GC.seq ?_
          refine GC.region ?_
          refine GL.val trivial rfl (OV.assign (v := .int .i64 0) rfl) ?_
          refine GL.nil ?_
          refine GC.block ?_
          refine GC.loop (α := Int) h (fun x52 => [(9, .int .i64 x52), (0, slv p_l), (5, slv x23.1), (7, slv r38)]) ⟨rfl, rfl, rfl, rfl, trivial⟩ ?_
          intro x52 H54 J53 h
          refine GC.seq ?_
          refine GC.seq ?_
          refine GC.region ?_
          refine GL.val trivial rfl (OV.move (v := .int .i64 x52) rfl) ?_
          refine GL.val trivial rfl (OV.move (v := slv r38) rfl) ?_
          refine GL.val trivial rfl (OV.lenSl (s := r38) rfl rfl) ?_
          refine GL.val trivial rfl (OV.ibin (v := .bool (decide ((x52 : Int) < (Sl.len r38 : Int)))) rfl rfl rfl) ?_
          refine GL.nil ?_
          refine GC.cond (b := decide ((x52 : Int) < (Sl.len r38 : Int))) rfl (fun hc55 => ?_) (fun hc55 => ?_)
          · replace h := And.left h hc55
            refine GC.skip ?_
            refine GC.seq ?_
            refine GC.block ?_
            refine GC.seq ?_
            refine GC.region ?_
            refine GL.val trivial rfl (OV.move (v := slv r38) rfl) ?_
            refine GL.val trivial rfl (OV.move (v := .int .i64 x52) rfl) ?_
            obtain ⟨p56, ha57, hb58, hc59, hd60, h⟩ := h
            refine GL.val trivial rfl (OV.indexAddr (s := r38) rfl rfl rfl rfl ha57 hb58 hc59 hd60) ?_
            obtain ⟨x61, hr62, h⟩ := h
            refine GL.val trivial rfl (OV.load (p := (p56.1, p56.2 + (x52 : Int).toNat * 1)) rfl rfl hr62) ?_
            refine GL.call h trivial rfl ok_law02_spoil (vs := [slv x61]) rfl ?_
            rintro _ H63 ⟨rfl, h⟩
            refine GL.nil ?_
            refine GC.region ?_
            refine GL.val trivial rfl (OV.move (v := slv r38) rfl) ?_
            refine GL.val trivial rfl (OV.move (v := .int .i64 x52) rfl) ?_
            obtain ⟨p64, ha65, hb66, hc67, hd68, h⟩ := h
            refine GL.val trivial rfl (OV.indexAddr (s := r38) rfl rfl rfl rfl ha65 hb66 hc67 hd68) ?_
            refine GL.store (p := (p64.1, p64.2 + (x52 : Int).toNat * 1)) (v := slv Sl.nil) h trivial rfl rfl rfl rfl ?_
            intro H69 h
            refine GL.nil_to (fun _ _ h => h) ?_
            refine GC.region ?_
            refine GL.val trivial rfl (OV.move (v := .int .i64 x52) rfl) ?_
            refine GL.val trivial rfl (OV.ibin (v := .int .i64 (w .i64 (x52 + 1))) rfl rfl rfl) ?_
            refine GL.val trivial rfl (OV.assign (v := .int .i64 (w .i64 (x52 + 1))) rfl) ?_
            exact GL.jump (fun _ _ h => h) (w .i64 (x52 + 1)) h ⟨rfl, rfl, rfl, rfl, trivial⟩
          · replace h := And.right h hc55
            refine GC.exit_to (fun _ _ h => h) ?_
            refine GC.seq ?_
            refine GC.region ?_
            refine GL.val trivial rfl (OV.move (v := slv x23.1) rfl) ?_
            refine GL.val trivial rfl (OV.move (v := slv p_l) rfl) ?_
            refine GL.call h trivial rfl ok_ref02_SameRows (vs := [slv x23.1, slv p_l]) rfl ?_
            rintro _ H71 ⟨r70, rfl, h⟩
            refine GL.val trivial rfl (OV.move (v := .bool r70) rfl) ?_
            obtain ⟨J73, h, hR74⟩ := h
            refine GL.cut (α := Bool) 2 J73 (fun b72 => [(77, .bool b72)]) ?_ ?_
            · rcases Bool.eq_false_or_eq_true r70 with hc75 | hc75
              · skip
                replace h := And.left h hc75
                refine GL.call h ⟨_, _, rfl, rfl, hc75⟩ rfl ok_law02_awake (vs := []) rfl ?_
                rintro _ H77 ⟨r76, rfl, h⟩
                refine GL.val trivial rfl (OV.pickT (b := r70) (v := .bool r76) rfl hc75 rfl) ?_
                exact GL.jump (fun _ _ h => h) r76 h ⟨rfl, trivial⟩
              · skip
                replace h := And.right h hc75
                refine GL.skip ⟨_, rfl, .inl ⟨_, rfl, hc75⟩⟩ rfl ?_
                refine GL.val trivial rfl (OV.pickF (b := r70) (v := .bool false) rfl hc75 rfl) ?_
                exact GL.jump (fun _ _ h => h) false h ⟨rfl, trivial⟩
            intro b72 H78 h
            replace h := hR74 b72 H78 h
            refine GL.val trivial rfl (OV.assign (v := .bool b72) rfl) ?_
            refine GL.nil ?_
            exact GC.ret (fun _ _ hf hs => post_tmp1 rfl rfl hf hs ⟨b72, rfl, h⟩)

def sh_law02_heavy (C : Ctx) (p_l : Sl) (K : Bool → Heap → Prop) (H : Heap) : Prop :=
  lp (α := Int × Int) (0, 0) H (fun x1 J2 H3 =>
 ift ((decide ((x1.2 : Int) < (Sl.len p_l : Int))) && (decide ((x1.1 : Int) < 600)))
 (ixa p_l x1.2 fun p6 =>
 ldT H3 T_api_Value.c (p6.1, p6.2 + (x1.2 : Int).toNat * 4) fun x11 =>
 c_law02_weight C x11 600 (fun r13 H14 =>
 J2 ((w .i64 (x1.1 + r13)), (w .i64 (x1.2 + 1))) H14) H3)
 (K (decide ((x1.1 : Int) ≥ 600)) H3))

theorem ad_law02_heavy (C : Ctx) (p_l : Sl) (K : Bool → Heap → Prop) (H : Heap) (h : sh_law02_heavy C p_l K H) : c_law02_heavy C p_l K H := by
  refine Spec.enter Tryz.func5 rfl Tryz.ntmps5 rfl ?_
  refine GC.sub [(0, slv p_l)] ⟨rfl, trivial⟩ ?_
  refine GC.seq ?_
  refine GC.region ?_
  refine GL.val trivial rfl (OV.assign (v := .bool false) rfl) ?_
  refine GL.nil ?_
  refine GC.seq ?_
  refine GC.region ?_
  refine GL.val trivial rfl (OV.assign (v := .int .i64 0) rfl) ?_
  refine GL.nil ?_
  refine GC.seq ?_
  refine GC.seq ?_
  refine GC.region ?_
  refine GL.val trivial rfl (OV.assign (v := .int .i64 0) rfl) ?_
  refine GL.nil ?_
  refine GC.block ?_
  refine GC.loop (α := Int × Int) h (fun x1 => [(3, .int .i64 x1.1), (4, .int .i64 x1.2), (0, slv p_l)]) ⟨rfl, rfl, rfl, trivial⟩ ?_
  intro x1 H3 J2 h
  refine GC.seq ?_
  refine GC.seq ?_
  refine GC.region ?_
  refine GL.val trivial rfl (OV.move (v := .int .i64 x1.2) rfl) ?_
  refine GL.val trivial rfl (OV.move (v := slv p_l) rfl) ?_
  refine GL.val trivial rfl (OV.lenSl (s := p_l) rfl rfl) ?_
  refine GL.val trivial rfl (OV.ibin (v := .bool (decide ((x1.2 : Int) < (Sl.len p_l : Int)))) rfl rfl rfl) ?_
  refine GL.val trivial rfl (OV.move (v := .bool (decide ((x1.2 : Int) < (Sl.len p_l : Int)))) rfl) ?_
  refine GL.cut0 3 [(12, .bool ((decide ((x1.2 : Int) < (Sl.len p_l : Int))) && (decide ((x1.1 : Int) < 600)))), (0, slv p_l), (3, .int .i64 x1.1), (4, .int .i64 x1.2)] ?_ ?_
  · rcases Bool.eq_false_or_eq_true (decide ((x1.2 : Int) < (Sl.len p_l : Int))) with hc4 | hc4
    · skip
      refine GL.val ⟨_, _, rfl, rfl, hc4⟩ rfl (OV.move (v := .int .i64 x1.1) rfl) ?_
      refine GL.val ⟨_, _, rfl, rfl, hc4⟩ rfl (OV.ibin (v := .bool (decide ((x1.1 : Int) < 600))) rfl rfl rfl) ?_
      refine GL.val trivial rfl (OV.pickT (b := decide ((x1.2 : Int) < (Sl.len p_l : Int))) (v := .bool (decide ((x1.1 : Int) < 600))) rfl hc4 rfl) ?_
      exact GL.jump0 (fun _ _ h => h) () rfl ⟨(by rw [hc4]; rfl), rfl, rfl, rfl, trivial⟩
    · skip
      refine GL.skip ⟨_, rfl, .inl ⟨_, rfl, hc4⟩⟩ rfl ?_
      refine GL.skip ⟨_, rfl, .inl ⟨_, rfl, hc4⟩⟩ rfl ?_
      refine GL.val trivial rfl (OV.pickF (b := decide ((x1.2 : Int) < (Sl.len p_l : Int))) (v := .bool false) rfl hc4 rfl) ?_
      exact GL.jump0 (fun _ _ h => h) () rfl ⟨(by rw [hc4]; rfl), rfl, rfl, rfl, trivial⟩
  refine GL.nil ?_
  refine GC.cond (b := (decide ((x1.2 : Int) < (Sl.len p_l : Int))) && (decide ((x1.1 : Int) < 600))) rfl (fun hc5 => ?_) (fun hc5 => ?_)
  · replace h := And.left h hc5
    refine GC.skip ?_
    refine GC.seq ?_
    refine GC.block ?_
    refine GC.region ?_
    refine GL.val trivial rfl (OV.move (v := .int .i64 x1.1) rfl) ?_
    refine GL.val trivial rfl (OV.move (v := slv p_l) rfl) ?_
    refine GL.val trivial rfl (OV.move (v := .int .i64 x1.2) rfl) ?_
    obtain ⟨p6, ha7, hb8, hc9, hd10, h⟩ := h
    refine GL.val trivial rfl (OV.indexAddr (s := p_l) rfl rfl rfl rfl ha7 hb8 hc9 hd10) ?_
    obtain ⟨x11, hr12, h⟩ := h
    refine GL.val trivial rfl (OV.loadT (p := (p6.1, p6.2 + (x1.2 : Int).toNat * 4)) (cs := T_api_Value.c x11) rfl rfl rfl hr12) ?_
    refine GL.call h trivial rfl ok_law02_weight (vs := [.agg (T_api_Value.c x11).toArray, .int .i64 600]) rfl ?_
    rintro _ H14 ⟨r13, rfl, h⟩
    refine GL.val trivial rfl (OV.ibin (v := .int .i64 (w .i64 (x1.1 + r13))) rfl rfl rfl) ?_
    refine GL.val trivial rfl (OV.assign (v := .int .i64 (w .i64 (x1.1 + r13))) rfl) ?_
    refine GL.nil_to (fun _ _ h => h) ?_
    refine GC.region ?_
    refine GL.val trivial rfl (OV.move (v := .int .i64 x1.2) rfl) ?_
    refine GL.val trivial rfl (OV.ibin (v := .int .i64 (w .i64 (x1.2 + 1))) rfl rfl rfl) ?_
    refine GL.val trivial rfl (OV.assign (v := .int .i64 (w .i64 (x1.2 + 1))) rfl) ?_
    exact GL.jump (fun _ _ h => h) ((w .i64 (x1.1 + r13)), (w .i64 (x1.2 + 1))) h ⟨rfl, rfl, rfl, trivial⟩
  · replace h := And.right h hc5
    refine GC.exit_to (fun _ _ h => h) ?_
    refine GC.seq ?_
    refine GC.region ?_
    refine GL.val trivial rfl (OV.move (v := .int .i64 x1.1) rfl) ?_
    refine GL.val trivial rfl (OV.ibin (v := .bool (decide ((x1.1 : Int) ≥ 600))) rfl rfl rfl) ?_
    refine GL.val trivial rfl (OV.assign (v := .bool (decide ((x1.1 : Int) ≥ 600))) rfl) ?_
    refine GL.nil ?_
    exact GC.ret (fun _ _ hf hs => post_tmp1 rfl rfl hf hs ⟨(decide ((x1.1 : Int) ≥ 600)), rfl, h⟩)

def sh_law02_awake (C : Ctx) (K : Bool → Heap → Prop) (H : Heap) : Prop :=
  nw (T_api_Value.c T_api_Value.zero) (fun b1 H2 =>
 nw (T_api_Value.c T_api_Value.zero) (fun b3 H4 =>
 stT (b1, 0) (T_api_Value.c (⟨2, 3, [], Sl.nil⟩ : T_api_Value)) (fun H5 =>
 stT (b3, 0) (T_api_Value.c (⟨3, 0, [49, 48], Sl.nil⟩ : T_api_Value)) (fun H6 =>
 ldT H6 T_api_Value.c (b1, 0) fun x7 =>
 ldT H6 T_api_Value.c (b3, 0) fun x9 =>
 nw ((T_api_Value.c x7) ++ (T_api_Value.c x9) ++ []) (fun b11 H12 =>
 nw (T_api_Value.c T_api_Value.zero) (fun b13 H14 =>
 stT (b13, 0) (T_api_Value.c (⟨6, 0, [99, 111, 110, 115], (Sl.of (some (b11, 0)) 2 2)⟩ : T_api_Value)) (fun H15 =>
 ldT H15 T_api_Value.c (b3, 0) fun x16 =>
 nw ((T_api_Value.c x16) ++ []) (fun b18 H19 =>
 ldT H19 T_api_Value.c (b1, 0) fun x20 =>
 nw ((T_api_Value.c x20) ++ []) (fun b22 H23 =>
 ldT H23 T_api_Value.c (b3, 0) fun x24 =>
 nw ((T_api_Value.c x24) ++ []) (fun b26 H27 =>
 nw ([slv (Sl.of (some (b18, 0)) 1 1), slv (Sl.of (some (b22, 0)) 1 1), slv (Sl.of (some (b26, 0)) 1 1)]) (fun b28 H29 =>
 c_value_Sort C (Sl.of (some (b28, 0)) 3 3) (fun r30 H31 =>
 ldT H31 T_api_Value.c (b13, 0) fun x32 =>
 c_value_Check C x32 (fun r34 H35 =>
 jn (α := Bool) (fun b36 H46 =>
 jn (α := Bool) (fun b47 H63 =>
 jn (α := Bool) (fun b64 H72 =>
 jn (α := Bool) (fun b74 H85 =>
 jn (α := Bool) (fun b86 H104 =>
 jn (α := Bool) (fun b105 H111 =>
 K b105 H111)
 (fun J106 => ift b86
 (c_value_Check C (⟨0, 0, [], Sl.nil⟩ : T_api_Value) (fun r109 H110 =>
 J106 ((r109 : Int) == 4) H110) H104)
 (J106 false H104)))
 (fun J87 => ift b74
 (ixa r30 0 fun p90 =>
 ldL H85 (p90.1, p90.2 + (0 : Int).toNat * 1) fun x95 =>
 ixa x95 0 fun p97 =>
 ldI H85 .i64 ((p97.1, p97.2 + (0 : Int).toNat * 4).1, (p97.1, p97.2 + (0 : Int).toNat * 4).2 + 1) fun x102 =>
 J87 ((x102 : Int) == 3) H85)
 (J87 false H85)))
 (fun J75 => ift (b64 && (((Sl.len r30 : Int) : Int) == 2))
 (ixa r30 0 fun p78 =>
 ldL H72 (p78.1, p78.2 + (0 : Int).toNat * 1) fun x83 =>
 J75 (((Sl.len x83 : Int) : Int) == 1) H72)
 (J75 false H72)))
 (fun J65 => ift b47
 (ldT H63 T_api_Value.c (b13, 0) fun x68 =>
 c_value_Show C x68 (fun r70 H71 =>
 J65 (r70 == ([99, 111, 110, 115, 40, 51, 44, 32, 49, 48, 98, 41] : Str)) H71) H63)
 (J65 false H63)))
 (fun J48 => ift b36
 (ldT H46 T_api_Value.c (b1, 0) fun x51 =>
 nw ((T_api_Value.c x51) ++ []) (fun b53 H54 =>
 ldT H54 T_api_Value.c (b1, 0) fun x55 =>
 ldT H54 T_api_Value.c (b3, 0) fun x57 =>
 nw ((T_api_Value.c x55) ++ (T_api_Value.c x57) ++ []) (fun b59 H60 =>
 c_value_CmpRows C (Sl.of (some (b53, 0)) 1 1) (Sl.of (some (b59, 0)) 2 2) (fun r61 H62 =>
 J48 ((r61 : Int) == (-1)) H62) H60) H54) H46)
 (J48 false H46)))
 (fun J37 => ift ((r34 : Int) == 0)
 (ldT H35 T_api_Value.c (b1, 0) fun x40 =>
 ldT H35 T_api_Value.c (b3, 0) fun x42 =>
 c_value_Cmp C x40 x42 (fun r44 H45 =>
 J37 ((r44 : Int) == (-1)) H45) H35)
 (J37 false H35))) H31) H29) H27) H23) H19) H15) H14) H12) H6) H5) H4) H2) H

theorem ad_law02_awake (C : Ctx) (K : Bool → Heap → Prop) (H : Heap) (h : sh_law02_awake C  K H) : c_law02_awake C  K H := by
  refine Spec.enter Tryz.func6 rfl Tryz.ntmps6 rfl ?_
  refine GC.sub [] trivial ?_
  refine GC.seq ?_
  refine GC.region ?_
  refine GL.val trivial rfl (OV.assign (v := .bool false) rfl) ?_
  refine GL.nil ?_
  refine GC.seq ?_
  refine GC.region ?_
  refine GL.val trivial rfl (OV.build (vs := [(0, .int .u8 2), (1, .int .i64 3)]) (v := .agg (T_api_Value.c (⟨2, 3, [], Sl.nil⟩ : T_api_Value)).toArray) rfl (fun _ => by kernel_rfl)) ?_
  refine GL.val trivial rfl (OV.build (vs := [(0, .int .u8 3), (2, sv [49, 48])]) (v := .agg (T_api_Value.c (⟨3, 0, [49, 48], Sl.nil⟩ : T_api_Value)).toArray) rfl (fun _ => by kernel_rfl)) ?_
  refine GL.alloc (cs := T_api_Value.c T_api_Value.zero) h trivial rfl rfl rfl ?_
  intro b1 H2 h
  refine GL.alloc (cs := T_api_Value.c T_api_Value.zero) h trivial rfl rfl rfl ?_
  intro b3 H4 h
  refine GL.storeT (p := (b1, 0)) (vs := T_api_Value.c (⟨2, 3, [], Sl.nil⟩ : T_api_Value)) h trivial rfl rfl rfl rfl ?_
  intro H5 h
  refine GL.storeT (p := (b3, 0)) (vs := T_api_Value.c (⟨3, 0, [49, 48], Sl.nil⟩ : T_api_Value)) h trivial rfl rfl rfl rfl ?_
  intro H6 h
  refine GL.nil ?_
  refine GC.seq ?_
  refine GC.region ?_
  obtain ⟨x7, hr8, h⟩ := h
  refine GL.val trivial rfl (OV.loadT (p := (b1, 0)) (cs := T_api_Value.c x7) rfl rfl rfl hr8) ?_
  obtain ⟨x9, hr10, h⟩ := h
  refine GL.val trivial rfl (OV.loadT (p := (b3, 0)) (cs := T_api_Value.c x9) rfl rfl rfl hr10) ?_
  refine GL.buildSlice (cs := (T_api_Value.c x7) ++ (T_api_Value.c x9) ++ []) h trivial rfl (vs := [(0, .agg (T_api_Value.c x7).toArray), (1, .agg (T_api_Value.c x9).toArray)]) rfl ⟨28, fun _ => by kernel_rfl⟩ ?_
  intro b11 H12 h
  refine GL.val trivial rfl (OV.build (vs := [(0, .int .u8 6), (2, sv [99, 111, 110, 115]), (3, slv (Sl.of (some (b11, 0)) 2 2))]) (v := .agg (T_api_Value.c (⟨6, 0, [99, 111, 110, 115], (Sl.of (some (b11, 0)) 2 2)⟩ : T_api_Value)).toArray) rfl (fun _ => by kernel_rfl)) ?_
  refine GL.alloc (cs := T_api_Value.c T_api_Value.zero) h trivial rfl rfl rfl ?_
  intro b13 H14 h
  refine GL.storeT (p := (b13, 0)) (vs := T_api_Value.c (⟨6, 0, [99, 111, 110, 115], (Sl.of (some (b11, 0)) 2 2)⟩ : T_api_Value)) h trivial rfl rfl rfl rfl ?_
  intro H15 h
  refine GL.nil ?_
  refine GC.seq ?_
  refine GC.region ?_
  obtain ⟨x16, hr17, h⟩ := h
  refine GL.val trivial rfl (OV.loadT (p := (b3, 0)) (cs := T_api_Value.c x16) rfl rfl rfl hr17) ?_
  refine GL.buildSlice (cs := (T_api_Value.c x16) ++ []) h trivial rfl (vs := [(0, .agg (T_api_Value.c x16).toArray)]) rfl ⟨28, fun _ => by kernel_rfl⟩ ?_
  intro b18 H19 h
  obtain ⟨x20, hr21, h⟩ := h
  refine GL.val trivial rfl (OV.loadT (p := (b1, 0)) (cs := T_api_Value.c x20) rfl rfl rfl hr21) ?_
  refine GL.buildSlice (cs := (T_api_Value.c x20) ++ []) h trivial rfl (vs := [(0, .agg (T_api_Value.c x20).toArray)]) rfl ⟨28, fun _ => by kernel_rfl⟩ ?_
  intro b22 H23 h
  obtain ⟨x24, hr25, h⟩ := h
  refine GL.val trivial rfl (OV.loadT (p := (b3, 0)) (cs := T_api_Value.c x24) rfl rfl rfl hr25) ?_
  refine GL.buildSlice (cs := (T_api_Value.c x24) ++ []) h trivial rfl (vs := [(0, .agg (T_api_Value.c x24).toArray)]) rfl ⟨28, fun _ => by kernel_rfl⟩ ?_
  intro b26 H27 h
  refine GL.buildSlice (cs := [slv (Sl.of (some (b18, 0)) 1 1), slv (Sl.of (some (b22, 0)) 1 1), slv (Sl.of (some (b26, 0)) 1 1)]) h trivial rfl (vs := [(0, slv (Sl.of (some (b18, 0)) 1 1)), (1, slv (Sl.of (some (b22, 0)) 1 1)), (2, slv (Sl.of (some (b26, 0)) 1 1))]) rfl ⟨22, fun _ => by kernel_rfl⟩ ?_
  intro b28 H29 h
  refine GL.call h trivial rfl ok_value_Sort (vs := [slv (Sl.of (some (b28, 0)) 3 3)]) rfl ?_
  rintro _ H31 ⟨r30, rfl, h⟩
  refine GL.val trivial rfl (OV.assign (v := slv r30) rfl) ?_
  refine GL.nil ?_
  refine GC.seq ?_
  refine GC.region ?_
  obtain ⟨x32, hr33, h⟩ := h
  refine GL.val trivial rfl (OV.loadT (p := (b13, 0)) (cs := T_api_Value.c x32) rfl rfl rfl hr33) ?_
  refine GL.call h trivial rfl ok_value_Check (vs := [.agg (T_api_Value.c x32).toArray]) rfl ?_
  rintro _ H35 ⟨r34, rfl, h⟩
  refine GL.val trivial rfl (OV.ibin (v := .bool ((r34 : Int) == 0)) rfl rfl rfl) ?_
  refine GL.val trivial rfl (OV.move (v := .bool ((r34 : Int) == 0)) rfl) ?_
  obtain ⟨J37, h, hR38⟩ := h
  refine GL.cut (α := Bool) 5 J37 (fun b36 => [(27, .bool b36), (1, pv (some (b1, 0))), (2, pv (some (b3, 0))), (3, pv (some (b13, 0))), (4, slv r30)]) ?_ ?_
  · rcases Bool.eq_false_or_eq_true ((r34 : Int) == 0) with hc39 | hc39
    · skip
      replace h := And.left h hc39
      obtain ⟨x40, hr41, h⟩ := h
      refine GL.val ⟨_, _, rfl, rfl, hc39⟩ rfl (OV.loadT (p := (b1, 0)) (cs := T_api_Value.c x40) rfl rfl rfl hr41) ?_
      obtain ⟨x42, hr43, h⟩ := h
      refine GL.val ⟨_, _, rfl, rfl, hc39⟩ rfl (OV.loadT (p := (b3, 0)) (cs := T_api_Value.c x42) rfl rfl rfl hr43) ?_
      refine GL.call h ⟨_, _, rfl, rfl, hc39⟩ rfl ok_value_Cmp (vs := [.agg (T_api_Value.c x40).toArray, .agg (T_api_Value.c x42).toArray]) rfl ?_
      rintro _ H45 ⟨r44, rfl, h⟩
      refine GL.val ⟨_, _, rfl, rfl, hc39⟩ rfl (OV.ibin (v := .bool ((r44 : Int) == (-1))) rfl rfl rfl) ?_
      refine GL.val trivial rfl (OV.pickT (b := (r34 : Int) == 0) (v := .bool ((r44 : Int) == (-1))) rfl hc39 rfl) ?_
      exact GL.jump (fun _ _ h => h) ((r44 : Int) == (-1)) h ⟨rfl, rfl, rfl, rfl, rfl, trivial⟩
    · skip
      replace h := And.right h hc39
      refine GL.skip ⟨_, rfl, .inl ⟨_, rfl, hc39⟩⟩ rfl ?_
      refine GL.skip ⟨_, rfl, .inl ⟨_, rfl, hc39⟩⟩ rfl ?_
      refine GL.skip ⟨_, rfl, .inl ⟨_, rfl, hc39⟩⟩ rfl ?_
      refine GL.skip ⟨_, rfl, .inl ⟨_, rfl, hc39⟩⟩ rfl ?_
      refine GL.val trivial rfl (OV.pickF (b := (r34 : Int) == 0) (v := .bool false) rfl hc39 rfl) ?_
      exact GL.jump (fun _ _ h => h) false h ⟨rfl, rfl, rfl, rfl, rfl, trivial⟩
  intro b36 H46 h
  replace h := hR38 b36 H46 h
  refine GL.val trivial rfl (OV.move (v := .bool b36) rfl) ?_
  obtain ⟨J48, h, hR49⟩ := h
  refine GL.cut (α := Bool) 8 J48 (fun b47 => [(36, .bool b47), (3, pv (some (b13, 0))), (4, slv r30)]) ?_ ?_
  · rcases Bool.eq_false_or_eq_true b36 with hc50 | hc50
    · skip
      replace h := And.left h hc50
      obtain ⟨x51, hr52, h⟩ := h
      refine GL.val ⟨_, _, rfl, rfl, hc50⟩ rfl (OV.loadT (p := (b1, 0)) (cs := T_api_Value.c x51) rfl rfl rfl hr52) ?_
      refine GL.buildSlice (cs := (T_api_Value.c x51) ++ []) h ⟨_, _, rfl, rfl, hc50⟩ rfl (vs := [(0, .agg (T_api_Value.c x51).toArray)]) rfl ⟨28, fun _ => by kernel_rfl⟩ ?_
      intro b53 H54 h
      obtain ⟨x55, hr56, h⟩ := h
      refine GL.val ⟨_, _, rfl, rfl, hc50⟩ rfl (OV.loadT (p := (b1, 0)) (cs := T_api_Value.c x55) rfl rfl rfl hr56) ?_
      obtain ⟨x57, hr58, h⟩ := h
      refine GL.val ⟨_, _, rfl, rfl, hc50⟩ rfl (OV.loadT (p := (b3, 0)) (cs := T_api_Value.c x57) rfl rfl rfl hr58) ?_
      refine GL.buildSlice (cs := (T_api_Value.c x55) ++ (T_api_Value.c x57) ++ []) h ⟨_, _, rfl, rfl, hc50⟩ rfl (vs := [(0, .agg (T_api_Value.c x55).toArray), (1, .agg (T_api_Value.c x57).toArray)]) rfl ⟨28, fun _ => by kernel_rfl⟩ ?_
      intro b59 H60 h
      refine GL.call h ⟨_, _, rfl, rfl, hc50⟩ rfl ok_value_CmpRows (vs := [slv (Sl.of (some (b53, 0)) 1 1), slv (Sl.of (some (b59, 0)) 2 2)]) rfl ?_
      rintro _ H62 ⟨r61, rfl, h⟩
      refine GL.val ⟨_, _, rfl, rfl, hc50⟩ rfl (OV.ibin (v := .bool ((r61 : Int) == (-1))) rfl rfl rfl) ?_
      refine GL.val trivial rfl (OV.pickT (b := b36) (v := .bool ((r61 : Int) == (-1))) rfl hc50 rfl) ?_
      exact GL.jump (fun _ _ h => h) ((r61 : Int) == (-1)) h ⟨rfl, rfl, rfl, trivial⟩
    · skip
      replace h := And.right h hc50
      refine GL.skip ⟨_, rfl, .inl ⟨_, rfl, hc50⟩⟩ rfl ?_
      refine GL.skip ⟨_, rfl, .inl ⟨_, rfl, hc50⟩⟩ rfl ?_
      refine GL.skip ⟨_, rfl, .inl ⟨_, rfl, hc50⟩⟩ rfl ?_
      refine GL.skip ⟨_, rfl, .inl ⟨_, rfl, hc50⟩⟩ rfl ?_
      refine GL.skip ⟨_, rfl, .inl ⟨_, rfl, hc50⟩⟩ rfl ?_
      refine GL.skip ⟨_, rfl, .inl ⟨_, rfl, hc50⟩⟩ rfl ?_
      refine GL.skip ⟨_, rfl, .inl ⟨_, rfl, hc50⟩⟩ rfl ?_
      refine GL.val trivial rfl (OV.pickF (b := b36) (v := .bool false) rfl hc50 rfl) ?_
      exact GL.jump (fun _ _ h => h) false h ⟨rfl, rfl, rfl, trivial⟩
  intro b47 H63 h
  replace h := hR49 b47 H63 h
  refine GL.val trivial rfl (OV.move (v := .bool b47) rfl) ?_
  obtain ⟨J65, h, hR66⟩ := h
  refine GL.cut (α := Bool) 4 J65 (fun b64 => [(41, .bool b64), (4, slv r30)]) ?_ ?_
  · rcases Bool.eq_false_or_eq_true b47 with hc67 | hc67
    · skip
      replace h := And.left h hc67
      obtain ⟨x68, hr69, h⟩ := h
      refine GL.val ⟨_, _, rfl, rfl, hc67⟩ rfl (OV.loadT (p := (b13, 0)) (cs := T_api_Value.c x68) rfl rfl rfl hr69) ?_
      refine GL.call h ⟨_, _, rfl, rfl, hc67⟩ rfl ok_value_Show (vs := [.agg (T_api_Value.c x68).toArray]) rfl ?_
      rintro _ H71 ⟨r70, rfl, h⟩
      refine GL.val ⟨_, _, rfl, rfl, hc67⟩ rfl (OV.sbin (a := r70) (b := ([99, 111, 110, 115, 40, 51, 44, 32, 49, 48, 98, 41] : Str)) (v := .bool (r70 == ([99, 111, 110, 115, 40, 51, 44, 32, 49, 48, 98, 41] : Str))) rfl rfl rfl) ?_
      refine GL.val trivial rfl (OV.pickT (b := b47) (v := .bool (r70 == ([99, 111, 110, 115, 40, 51, 44, 32, 49, 48, 98, 41] : Str))) rfl hc67 rfl) ?_
      exact GL.jump (fun _ _ h => h) (r70 == ([99, 111, 110, 115, 40, 51, 44, 32, 49, 48, 98, 41] : Str)) h ⟨rfl, rfl, trivial⟩
    · skip
      replace h := And.right h hc67
      refine GL.skip ⟨_, rfl, .inl ⟨_, rfl, hc67⟩⟩ rfl ?_
      refine GL.skip ⟨_, rfl, .inl ⟨_, rfl, hc67⟩⟩ rfl ?_
      refine GL.skip ⟨_, rfl, .inl ⟨_, rfl, hc67⟩⟩ rfl ?_
      refine GL.val trivial rfl (OV.pickF (b := b47) (v := .bool false) rfl hc67 rfl) ?_
      exact GL.jump (fun _ _ h => h) false h ⟨rfl, rfl, trivial⟩
  intro b64 H72 h
  replace h := hR66 b64 H72 h
  refine GL.val trivial rfl (OV.move (v := .bool b64) rfl) ?_
  refine GL.cut0 4 [(46, .bool (b64 && (((Sl.len r30 : Int) : Int) == 2))), (4, slv r30)] ?_ ?_
  · rcases Bool.eq_false_or_eq_true b64 with hc73 | hc73
    · skip
      refine GL.val ⟨_, _, rfl, rfl, hc73⟩ rfl (OV.move (v := slv r30) rfl) ?_
      refine GL.val ⟨_, _, rfl, rfl, hc73⟩ rfl (OV.lenSl (s := r30) rfl rfl) ?_
      refine GL.val ⟨_, _, rfl, rfl, hc73⟩ rfl (OV.ibin (v := .bool (((Sl.len r30 : Int) : Int) == 2)) rfl rfl rfl) ?_
      refine GL.val trivial rfl (OV.pickT (b := b64) (v := .bool (((Sl.len r30 : Int) : Int) == 2)) rfl hc73 rfl) ?_
      exact GL.jump0 (fun _ _ h => h) () rfl ⟨(by rw [hc73]; rfl), rfl, trivial⟩
    · skip
      refine GL.skip ⟨_, rfl, .inl ⟨_, rfl, hc73⟩⟩ rfl ?_
      refine GL.skip ⟨_, rfl, .inl ⟨_, rfl, hc73⟩⟩ rfl ?_
      refine GL.skip ⟨_, rfl, .inl ⟨_, rfl, hc73⟩⟩ rfl ?_
      refine GL.val trivial rfl (OV.pickF (b := b64) (v := .bool false) rfl hc73 rfl) ?_
      exact GL.jump0 (fun _ _ h => h) () rfl ⟨(by rw [hc73]; rfl), rfl, trivial⟩
  refine GL.val trivial rfl (OV.move (v := .bool (b64 && (((Sl.len r30 : Int) : Int) == 2))) rfl) ?_
  obtain ⟨J75, h, hR76⟩ := h
  refine GL.cut (α := Bool) 6 J75 (fun b74 => [(53, .bool b74), (4, slv r30)]) ?_ ?_
  · rcases Bool.eq_false_or_eq_true (b64 && (((Sl.len r30 : Int) : Int) == 2)) with hc77 | hc77
    · skip
      replace h := And.left h hc77
      refine GL.val ⟨_, _, rfl, rfl, hc77⟩ rfl (OV.move (v := slv r30) rfl) ?_
      obtain ⟨p78, ha79, hb80, hc81, hd82, h⟩ := h
      refine GL.val ⟨_, _, rfl, rfl, hc77⟩ rfl (OV.indexAddr (s := r30) rfl rfl rfl rfl ha79 hb80 hc81 hd82) ?_
      obtain ⟨x83, hr84, h⟩ := h
      refine GL.val ⟨_, _, rfl, rfl, hc77⟩ rfl (OV.load (p := (p78.1, p78.2 + (0 : Int).toNat * 1)) rfl rfl hr84) ?_
      refine GL.val ⟨_, _, rfl, rfl, hc77⟩ rfl (OV.lenSl (s := x83) rfl rfl) ?_
      refine GL.val ⟨_, _, rfl, rfl, hc77⟩ rfl (OV.ibin (v := .bool (((Sl.len x83 : Int) : Int) == 1)) rfl rfl rfl) ?_
      refine GL.val trivial rfl (OV.pickT (b := b64 && (((Sl.len r30 : Int) : Int) == 2)) (v := .bool (((Sl.len x83 : Int) : Int) == 1)) rfl hc77 rfl) ?_
      exact GL.jump (fun _ _ h => h) (((Sl.len x83 : Int) : Int) == 1) h ⟨rfl, rfl, trivial⟩
    · skip
      replace h := And.right h hc77
      refine GL.skip ⟨_, rfl, .inl ⟨_, rfl, hc77⟩⟩ rfl ?_
      refine GL.skip ⟨_, rfl, .inl ⟨_, rfl, hc77⟩⟩ rfl ?_
      refine GL.skip ⟨_, rfl, .inl ⟨_, rfl, hc77⟩⟩ rfl ?_
      refine GL.skip ⟨_, rfl, .inl ⟨_, rfl, hc77⟩⟩ rfl ?_
      refine GL.skip ⟨_, rfl, .inl ⟨_, rfl, hc77⟩⟩ rfl ?_
      refine GL.val trivial rfl (OV.pickF (b := b64 && (((Sl.len r30 : Int) : Int) == 2)) (v := .bool false) rfl hc77 rfl) ?_
      exact GL.jump (fun _ _ h => h) false h ⟨rfl, rfl, trivial⟩
  intro b74 H85 h
  replace h := hR76 b74 H85 h
  refine GL.val trivial rfl (OV.move (v := .bool b74) rfl) ?_
  obtain ⟨J87, h, hR88⟩ := h
  refine GL.cut (α := Bool) 8 J87 (fun b86 => [(62, .bool b86)]) ?_ ?_
  · rcases Bool.eq_false_or_eq_true b74 with hc89 | hc89
    · skip
      replace h := And.left h hc89
      refine GL.val ⟨_, _, rfl, rfl, hc89⟩ rfl (OV.move (v := slv r30) rfl) ?_
      obtain ⟨p90, ha91, hb92, hc93, hd94, h⟩ := h
      refine GL.val ⟨_, _, rfl, rfl, hc89⟩ rfl (OV.indexAddr (s := r30) rfl rfl rfl rfl ha91 hb92 hc93 hd94) ?_
      obtain ⟨x95, hr96, h⟩ := h
      refine GL.val ⟨_, _, rfl, rfl, hc89⟩ rfl (OV.load (p := (p90.1, p90.2 + (0 : Int).toNat * 1)) rfl rfl hr96) ?_
      obtain ⟨p97, ha98, hb99, hc100, hd101, h⟩ := h
      refine GL.val ⟨_, _, rfl, rfl, hc89⟩ rfl (OV.indexAddr (s := x95) rfl rfl rfl rfl ha98 hb99 hc100 hd101) ?_
      refine GL.val ⟨_, _, rfl, rfl, hc89⟩ rfl (OV.fieldAddr (p := (p97.1, p97.2 + (0 : Int).toNat * 4)) rfl rfl) ?_
      obtain ⟨x102, hr103, h⟩ := h
      refine GL.val ⟨_, _, rfl, rfl, hc89⟩ rfl (OV.load (p := ((p97.1, p97.2 + (0 : Int).toNat * 4).1, (p97.1, p97.2 + (0 : Int).toNat * 4).2 + 1)) rfl rfl hr103) ?_
      refine GL.val ⟨_, _, rfl, rfl, hc89⟩ rfl (OV.ibin (v := .bool ((x102 : Int) == 3)) rfl rfl rfl) ?_
      refine GL.val trivial rfl (OV.pickT (b := b74) (v := .bool ((x102 : Int) == 3)) rfl hc89 rfl) ?_
      exact GL.jump (fun _ _ h => h) ((x102 : Int) == 3) h ⟨rfl, trivial⟩
    · skip
      replace h := And.right h hc89
      refine GL.skip ⟨_, rfl, .inl ⟨_, rfl, hc89⟩⟩ rfl ?_
      refine GL.skip ⟨_, rfl, .inl ⟨_, rfl, hc89⟩⟩ rfl ?_
      refine GL.skip ⟨_, rfl, .inl ⟨_, rfl, hc89⟩⟩ rfl ?_
      refine GL.skip ⟨_, rfl, .inl ⟨_, rfl, hc89⟩⟩ rfl ?_
      refine GL.skip ⟨_, rfl, .inl ⟨_, rfl, hc89⟩⟩ rfl ?_
      refine GL.skip ⟨_, rfl, .inl ⟨_, rfl, hc89⟩⟩ rfl ?_
      refine GL.skip ⟨_, rfl, .inl ⟨_, rfl, hc89⟩⟩ rfl ?_
      refine GL.val trivial rfl (OV.pickF (b := b74) (v := .bool false) rfl hc89 rfl) ?_
      exact GL.jump (fun _ _ h => h) false h ⟨rfl, trivial⟩
  intro b86 H104 h
  replace h := hR88 b86 H104 h
  refine GL.val trivial rfl (OV.move (v := .bool b86) rfl) ?_
  obtain ⟨J106, h, hR107⟩ := h
  refine GL.cut (α := Bool) 4 J106 (fun b105 => [(67, .bool b105)]) ?_ ?_
  · rcases Bool.eq_false_or_eq_true b86 with hc108 | hc108
    · skip
      replace h := And.left h hc108
      refine GL.val ⟨_, _, rfl, rfl, hc108⟩ rfl (OV.build (vs := []) (v := .agg (T_api_Value.c (⟨0, 0, [], Sl.nil⟩ : T_api_Value)).toArray) rfl (fun _ => by kernel_rfl)) ?_
      refine GL.call h ⟨_, _, rfl, rfl, hc108⟩ rfl ok_value_Check (vs := [.agg (T_api_Value.c (⟨0, 0, [], Sl.nil⟩ : T_api_Value)).toArray]) rfl ?_
      rintro _ H110 ⟨r109, rfl, h⟩
      refine GL.val ⟨_, _, rfl, rfl, hc108⟩ rfl (OV.ibin (v := .bool ((r109 : Int) == 4)) rfl rfl rfl) ?_
      refine GL.val trivial rfl (OV.pickT (b := b86) (v := .bool ((r109 : Int) == 4)) rfl hc108 rfl) ?_
      exact GL.jump (fun _ _ h => h) ((r109 : Int) == 4) h ⟨rfl, trivial⟩
    · skip
      replace h := And.right h hc108
      refine GL.skip ⟨_, rfl, .inl ⟨_, rfl, hc108⟩⟩ rfl ?_
      refine GL.skip ⟨_, rfl, .inl ⟨_, rfl, hc108⟩⟩ rfl ?_
      refine GL.skip ⟨_, rfl, .inl ⟨_, rfl, hc108⟩⟩ rfl ?_
      refine GL.val trivial rfl (OV.pickF (b := b86) (v := .bool false) rfl hc108 rfl) ?_
      exact GL.jump (fun _ _ h => h) false h ⟨rfl, trivial⟩
  intro b105 H111 h
  replace h := hR107 b105 H111 h
  refine GL.val trivial rfl (OV.assign (v := .bool b105) rfl) ?_
  refine GL.nil ?_
  exact GC.ret (fun _ _ hf hs => post_tmp1 rfl rfl hf hs ⟨b105, rfl, h⟩)

def sh_value_CmpRows (C : Ctx) (p_a : Sl) (p_b : Sl) (K : Int → Heap → Prop) (H : Heap) : Prop :=
  c_value_may C p_a (fun r1 H2 =>
 c_value_may C p_b (fun r3 H4 =>
 ift ((!r1) || (!r3))
 (c_value_last C r1 r3 (fun r7 H8 =>
 K r7 H8) H4)
 (c_value_rows C p_a p_b (fun r9 H10 =>
 K r9 H10) H4)) H2) H

theorem ad_value_CmpRows (C : Ctx) (p_a : Sl) (p_b : Sl) (K : Int → Heap → Prop) (H : Heap) (h : sh_value_CmpRows C p_a p_b K H) : c_value_CmpRows C p_a p_b K H := by
  refine Spec.enter Tryz.func7 rfl Tryz.ntmps7 rfl ?_
  refine GC.sub [(0, slv p_a), (1, slv p_b)] ⟨rfl, rfl, trivial⟩ ?_
  refine GC.seq ?_
  refine GC.region ?_
  refine GL.val trivial rfl (OV.assign (v := .int .i64 0) rfl) ?_
  refine GL.nil ?_
  refine GC.seq ?_
  refine GC.seq ?_
  refine GC.region ?_
  refine GL.val trivial rfl (OV.move (v := slv p_a) rfl) ?_
  refine GL.call h trivial rfl ok_value_may (vs := [slv p_a]) rfl ?_
  rintro _ H2 ⟨r1, rfl, h⟩
  refine GL.val trivial rfl (OV.move (v := slv p_b) rfl) ?_
  refine GL.call h trivial rfl ok_value_may (vs := [slv p_b]) rfl ?_
  rintro _ H4 ⟨r3, rfl, h⟩
  refine GL.val trivial rfl (OV.assign (v := .bool r1) rfl) ?_
  refine GL.val trivial rfl (OV.assign (v := .bool r3) rfl) ?_
  refine GL.nil ?_
  refine GC.seq ?_
  refine GC.region ?_
  refine GL.val trivial rfl (OV.move (v := .bool r1) rfl) ?_
  refine GL.val trivial rfl (OV.not rfl) ?_
  refine GL.val trivial rfl (OV.move (v := .bool (!r1)) rfl) ?_
  refine GL.cut0 3 [(16, .bool ((!r1) || (!r3))), (0, slv p_a), (1, slv p_b), (5, .bool r1), (6, .bool r3)] ?_ ?_
  · rcases Bool.eq_false_or_eq_true (!r1) with hc5 | hc5
    · skip
      refine GL.skip ⟨_, rfl, .inl ⟨_, rfl, hc5⟩⟩ rfl ?_
      refine GL.skip ⟨_, rfl, .inl ⟨_, rfl, hc5⟩⟩ rfl ?_
      refine GL.val trivial rfl (OV.pickT (b := !r1) (v := .bool true) rfl hc5 rfl) ?_
      exact GL.jump0 (fun _ _ h => h) () rfl ⟨(by rw [hc5]; rfl), rfl, rfl, rfl, rfl, trivial⟩
    · skip
      refine GL.val ⟨_, _, rfl, rfl, hc5⟩ rfl (OV.move (v := .bool r3) rfl) ?_
      refine GL.val ⟨_, _, rfl, rfl, hc5⟩ rfl (OV.not rfl) ?_
      refine GL.val trivial rfl (OV.pickF (b := !r1) (v := .bool (!r3)) rfl hc5 rfl) ?_
      exact GL.jump0 (fun _ _ h => h) () rfl ⟨(by rw [hc5]; rfl), rfl, rfl, rfl, rfl, trivial⟩
  refine GL.nil ?_
  refine GC.cond (b := (!r1) || (!r3)) rfl (fun hc6 => ?_) (fun hc6 => ?_)
  · replace h := And.left h hc6
    refine GC.seq ?_
    refine GC.region ?_
    refine GL.val trivial rfl (OV.move (v := .bool r1) rfl) ?_
    refine GL.val trivial rfl (OV.move (v := .bool r3) rfl) ?_
    refine GL.call h trivial rfl ok_value_last (vs := [.bool r1, .bool r3]) rfl ?_
    rintro _ H8 ⟨r7, rfl, h⟩
    refine GL.val trivial rfl (OV.assign (v := .int .i64 r7) rfl) ?_
    refine GL.nil ?_
    exact GC.ret (fun _ _ hf hs => post_tmp1 rfl rfl hf hs ⟨r7, rfl, h⟩)
  · replace h := And.right h hc6
    refine GC.skip ?_
    refine GC.seq ?_
    refine GC.region ?_
    refine GL.val trivial rfl (OV.move (v := slv p_a) rfl) ?_
    refine GL.val trivial rfl (OV.move (v := slv p_b) rfl) ?_
    refine GL.call h trivial rfl ok_value_rows (vs := [slv p_a, slv p_b]) rfl ?_
    rintro _ H10 ⟨r9, rfl, h⟩
    refine GL.val trivial rfl (OV.assign (v := .int .i64 r9) rfl) ?_
    refine GL.nil ?_
    exact GC.ret (fun _ _ hf hs => post_tmp1 rfl rfl hf hs ⟨r9, rfl, h⟩)

def sh_ref02_CmpRows (C : Ctx) (p_a : Sl) (p_b : Sl) (K : Int → Heap → Prop) (H : Heap) : Prop :=
  c_ref02_Row C p_a (fun r1 H2 =>
 c_ref02_Row C p_b (fun r3 H4 =>
 ift ((!r1) || (!r3))
 (c_ref02_last C r1 r3 (fun r7 H8 =>
 K r7 H8) H4)
 (c_ref02_rows C p_a p_b (fun r9 H10 =>
 K r9 H10) H4)) H2) H

theorem ad_ref02_CmpRows (C : Ctx) (p_a : Sl) (p_b : Sl) (K : Int → Heap → Prop) (H : Heap) (h : sh_ref02_CmpRows C p_a p_b K H) : c_ref02_CmpRows C p_a p_b K H := by
  refine Spec.enter Tryz.func8 rfl Tryz.ntmps8 rfl ?_
  refine GC.sub [(0, slv p_a), (1, slv p_b)] ⟨rfl, rfl, trivial⟩ ?_
  refine GC.seq ?_
  refine GC.region ?_
  refine GL.val trivial rfl (OV.assign (v := .int .i64 0) rfl) ?_
  refine GL.nil ?_
  refine GC.seq ?_
  refine GC.region ?_
  refine GL.val trivial rfl (OV.move (v := slv p_a) rfl) ?_
  refine GL.call h trivial rfl ok_ref02_Row (vs := [slv p_a]) rfl ?_
  rintro _ H2 ⟨r1, rfl, h⟩
  refine GL.val trivial rfl (OV.move (v := slv p_b) rfl) ?_
  refine GL.call h trivial rfl ok_ref02_Row (vs := [slv p_b]) rfl ?_
  rintro _ H4 ⟨r3, rfl, h⟩
  refine GL.val trivial rfl (OV.assign (v := .bool r1) rfl) ?_
  refine GL.val trivial rfl (OV.assign (v := .bool r3) rfl) ?_
  refine GL.nil ?_
  refine GC.seq ?_
  refine GC.seq ?_
  refine GC.region ?_
  refine GL.val trivial rfl (OV.move (v := .bool r1) rfl) ?_
  refine GL.val trivial rfl (OV.not rfl) ?_
  refine GL.val trivial rfl (OV.move (v := .bool (!r1)) rfl) ?_
  refine GL.cut0 3 [(16, .bool ((!r1) || (!r3))), (0, slv p_a), (1, slv p_b), (5, .bool r1), (6, .bool r3)] ?_ ?_
  · rcases Bool.eq_false_or_eq_true (!r1) with hc5 | hc5
    · skip
      refine GL.skip ⟨_, rfl, .inl ⟨_, rfl, hc5⟩⟩ rfl ?_
      refine GL.skip ⟨_, rfl, .inl ⟨_, rfl, hc5⟩⟩ rfl ?_
      refine GL.val trivial rfl (OV.pickT (b := !r1) (v := .bool true) rfl hc5 rfl) ?_
      exact GL.jump0 (fun _ _ h => h) () rfl ⟨(by rw [hc5]; rfl), rfl, rfl, rfl, rfl, trivial⟩
    · skip
      refine GL.val ⟨_, _, rfl, rfl, hc5⟩ rfl (OV.move (v := .bool r3) rfl) ?_
      refine GL.val ⟨_, _, rfl, rfl, hc5⟩ rfl (OV.not rfl) ?_
      refine GL.val trivial rfl (OV.pickF (b := !r1) (v := .bool (!r3)) rfl hc5 rfl) ?_
      exact GL.jump0 (fun _ _ h => h) () rfl ⟨(by rw [hc5]; rfl), rfl, rfl, rfl, rfl, trivial⟩
  refine GL.nil ?_
  refine GC.cond (b := (!r1) || (!r3)) rfl (fun hc6 => ?_) (fun hc6 => ?_)
  · replace h := And.left h hc6
    refine GC.seq ?_
    refine GC.region ?_
    refine GL.val trivial rfl (OV.move (v := .bool r1) rfl) ?_
    refine GL.val trivial rfl (OV.move (v := .bool r3) rfl) ?_
    refine GL.call h trivial rfl ok_ref02_last (vs := [.bool r1, .bool r3]) rfl ?_
    rintro _ H8 ⟨r7, rfl, h⟩
    refine GL.val trivial rfl (OV.assign (v := .int .i64 r7) rfl) ?_
    refine GL.nil ?_
    exact GC.ret (fun _ _ hf hs => post_tmp1 rfl rfl hf hs ⟨r7, rfl, h⟩)
  · replace h := And.right h hc6
    refine GC.skip ?_
    refine GC.seq ?_
    refine GC.region ?_
    refine GL.val trivial rfl (OV.move (v := slv p_a) rfl) ?_
    refine GL.val trivial rfl (OV.move (v := slv p_b) rfl) ?_
    refine GL.call h trivial rfl ok_ref02_rows (vs := [slv p_a, slv p_b]) rfl ?_
    rintro _ H10 ⟨r9, rfl, h⟩
    refine GL.val trivial rfl (OV.assign (v := .int .i64 r9) rfl) ?_
    refine GL.nil ?_
    exact GC.ret (fun _ _ hf hs => post_tmp1 rfl rfl hf hs ⟨r9, rfl, h⟩)

def sh_value_Cmp (C : Ctx) (p_a : T_api_Value) (p_b : T_api_Value) (K : Int → Heap → Prop) (H : Heap) : Prop :=
  nw (T_api_Value.c p_a) (fun b1 H2 =>
 nw (T_api_Value.c p_b) (fun b3 H4 =>
 ldT H4 T_api_Value.c (b1, 0) fun x5 =>
 nw ((T_api_Value.c x5) ++ []) (fun b7 H8 =>
 ldT H8 T_api_Value.c (b3, 0) fun x9 =>
 nw ((T_api_Value.c x9) ++ []) (fun b11 H12 =>
 c_value_CmpRows C (Sl.of (some (b7, 0)) 1 1) (Sl.of (some (b11, 0)) 1 1) (fun r13 H14 =>
 K r13 H14) H12) H8) H4) H2) H

theorem ad_value_Cmp (C : Ctx) (p_a : T_api_Value) (p_b : T_api_Value) (K : Int → Heap → Prop) (H : Heap) (h : sh_value_Cmp C p_a p_b K H) : c_value_Cmp C p_a p_b K H := by
  refine Spec.enter Tryz.func9 rfl Tryz.ntmps9 rfl ?_
  refine GC.sub [(0, .agg (T_api_Value.c p_a).toArray), (1, .agg (T_api_Value.c p_b).toArray)] ⟨rfl, rfl, trivial⟩ ?_
  refine GC.seq ?_
  refine GC.region ?_
  refine GL.box (v := .agg (T_api_Value.c p_a).toArray) (cs := T_api_Value.c p_a) h trivial rfl rfl rfl ?_
  intro b1 H2 h
  refine GL.box (v := .agg (T_api_Value.c p_b).toArray) (cs := T_api_Value.c p_b) h trivial rfl rfl rfl ?_
  intro b3 H4 h
  refine GL.val trivial rfl (OV.assign (v := .int .i64 0) rfl) ?_
  refine GL.nil ?_
  refine GC.seq ?_
  refine GC.region ?_
  obtain ⟨x5, hr6, h⟩ := h
  refine GL.val trivial rfl (OV.loadT (p := (b1, 0)) (cs := T_api_Value.c x5) rfl rfl rfl hr6) ?_
  refine GL.buildSlice (cs := (T_api_Value.c x5) ++ []) h trivial rfl (vs := [(0, .agg (T_api_Value.c x5).toArray)]) rfl ⟨28, fun _ => by kernel_rfl⟩ ?_
  intro b7 H8 h
  obtain ⟨x9, hr10, h⟩ := h
  refine GL.val trivial rfl (OV.loadT (p := (b3, 0)) (cs := T_api_Value.c x9) rfl rfl rfl hr10) ?_
  refine GL.buildSlice (cs := (T_api_Value.c x9) ++ []) h trivial rfl (vs := [(0, .agg (T_api_Value.c x9).toArray)]) rfl ⟨28, fun _ => by kernel_rfl⟩ ?_
  intro b11 H12 h
  refine GL.call h trivial rfl ok_value_CmpRows (vs := [slv (Sl.of (some (b7, 0)) 1 1), slv (Sl.of (some (b11, 0)) 1 1)]) rfl ?_
  rintro _ H14 ⟨r13, rfl, h⟩
  refine GL.val trivial rfl (OV.assign (v := .int .i64 r13) rfl) ?_
  refine GL.nil ?_
  exact GC.ret (fun _ _ hf hs => post_tmp1 rfl rfl hf hs ⟨r13, rfl, h⟩)

def sh_ref02_Own (C : Ctx) (p_l : Sl) (K : Sl → Heap → Prop) (H : Heap) : Prop :=
  lp (α := Sl × Int) (Sl.nil, 0) H (fun x1 J2 H3 =>
 ift (decide ((x1.2 : Int) < (Sl.len p_l : Int)))
 (ixa p_l x1.2 fun p5 =>
 ldT H3 T_api_Value.c (p5.1, p5.2 + (x1.2 : Int).toNat * 4) fun x10 =>
 nw (T_api_Value.c T_api_Value.zero) (fun b12 H13 =>
 stT (b12, 0) (T_api_Value.c x10) (fun H14 =>
 ldL H14 ((b12, 0).1, (b12, 0).2 + 3) fun x15 =>
 c_ref02_Own C x15 (fun r17 H18 =>
 st ((b12, 0).1, (b12, 0).2 + 3) (slv r17) (fun H19 =>
 ldT H19 T_api_Value.c (b12, 0) fun x20 =>
 apd (T_api_Value.c T_api_Value.zero) 56 x1.1 ((T_api_Value.c x20) ++ []) 1 (fun r22 H23 =>
 J2 (r22, (w .i64 (x1.2 + 1))) H23) H19) H18) H14) H13) H3)
 (K x1.1 H3))

theorem ad_ref02_Own (C : Ctx) (p_l : Sl) (K : Sl → Heap → Prop) (H : Heap) (h : sh_ref02_Own C p_l K H) : c_ref02_Own C p_l K H := by
  refine Spec.enter Tryz.func11 rfl Tryz.ntmps11 rfl ?_
  refine GC.sub [(0, slv p_l)] ⟨rfl, trivial⟩ ?_
  refine GC.seq ?_
  refine GC.region ?_
  refine GL.val trivial rfl (OV.assign (v := slv Sl.nil) rfl) ?_
  refine GL.nil ?_
  refine GC.seq ?_
  refine GC.region ?_
  refine GL.val trivial rfl (OV.assign (v := slv Sl.nil) rfl) ?_
  refine GL.nil ?_
  refine GC.seq ?_
  refine GC.seq ?_
  refine GC.region ?_
  refine GL.val trivial rfl (OV.assign (v := .int .i64 0) rfl) ?_
  refine GL.nil ?_
  refine GC.block ?_
  refine GC.loop (α := Sl × Int) h (fun x1 => [(3, slv x1.1), (4, .int .i64 x1.2), (0, slv p_l)]) ⟨rfl, rfl, rfl, trivial⟩ ?_
  intro x1 H3 J2 h
  refine GC.seq ?_
  refine GC.seq ?_
  refine GC.region ?_
  refine GL.val trivial rfl (OV.move (v := .int .i64 x1.2) rfl) ?_
  refine GL.val trivial rfl (OV.move (v := slv p_l) rfl) ?_
  refine GL.val trivial rfl (OV.lenSl (s := p_l) rfl rfl) ?_
  refine GL.val trivial rfl (OV.ibin (v := .bool (decide ((x1.2 : Int) < (Sl.len p_l : Int)))) rfl rfl rfl) ?_
  refine GL.nil ?_
  refine GC.cond (b := decide ((x1.2 : Int) < (Sl.len p_l : Int))) rfl (fun hc4 => ?_) (fun hc4 => ?_)
  · replace h := And.left h hc4
    refine GC.skip ?_
    refine GC.seq ?_
    refine GC.block ?_
    refine GC.seq ?_
    refine GC.region ?_
    refine GL.val trivial rfl (OV.move (v := slv p_l) rfl) ?_
    refine GL.val trivial rfl (OV.move (v := .int .i64 x1.2) rfl) ?_
    obtain ⟨p5, ha6, hb7, hc8, hd9, h⟩ := h
    refine GL.val trivial rfl (OV.indexAddr (s := p_l) rfl rfl rfl rfl ha6 hb7 hc8 hd9) ?_
    obtain ⟨x10, hr11, h⟩ := h
    refine GL.val trivial rfl (OV.loadT (p := (p5.1, p5.2 + (x1.2 : Int).toNat * 4)) (cs := T_api_Value.c x10) rfl rfl rfl hr11) ?_
    refine GL.alloc (cs := T_api_Value.c T_api_Value.zero) h trivial rfl rfl rfl ?_
    intro b12 H13 h
    refine GL.storeT (p := (b12, 0)) (vs := T_api_Value.c x10) h trivial rfl rfl rfl rfl ?_
    intro H14 h
    refine GL.nil ?_
    refine GC.seq ?_
    refine GC.region ?_
    refine GL.val trivial rfl (OV.fieldAddr (p := (b12, 0)) rfl rfl) ?_
    obtain ⟨x15, hr16, h⟩ := h
    refine GL.val trivial rfl (OV.load (p := ((b12, 0).1, (b12, 0).2 + 3)) rfl rfl hr16) ?_
    refine GL.call h trivial rfl ok_ref02_Own (vs := [slv x15]) rfl ?_
    rintro _ H18 ⟨r17, rfl, h⟩
    refine GL.val trivial rfl (OV.fieldAddr (p := (b12, 0)) rfl rfl) ?_
    refine GL.store (p := ((b12, 0).1, (b12, 0).2 + 3)) (v := slv r17) h trivial rfl rfl rfl rfl ?_
    intro H19 h
    refine GL.nil ?_
    refine GC.region ?_
    refine GL.val trivial rfl (OV.move (v := slv x1.1) rfl) ?_
    obtain ⟨x20, hr21, h⟩ := h
    refine GL.val trivial rfl (OV.loadT (p := (b12, 0)) (cs := T_api_Value.c x20) rfl rfl rfl hr21) ?_
    refine GL.appendLit (s := x1.1) (ys := (T_api_Value.c x20) ++ []) (zc := T_api_Value.c T_api_Value.zero) (bytes := 56) h trivial rfl (fun _ => trivial) rfl (fun _ => rfl) (fun _ => rfl) (vs := [(0, .agg (T_api_Value.c x20).toArray)]) rfl ⟨28, fun _ => by kernel_rfl⟩ ⟨⟨_, _, _, rfl, rfl, rfl, rfl, rfl, rfl⟩⟩ rfl rfl ?_
    intro _ r22 H23 h
    refine GL.val trivial rfl (OV.assign (v := slv r22) rfl) ?_
    refine GL.nil_to (fun _ _ h => h) ?_
    refine GC.region ?_
    refine GL.val trivial rfl (OV.move (v := .int .i64 x1.2) rfl) ?_
    refine GL.val trivial rfl (OV.ibin (v := .int .i64 (w .i64 (x1.2 + 1))) rfl rfl rfl) ?_
    refine GL.val trivial rfl (OV.assign (v := .int .i64 (w .i64 (x1.2 + 1))) rfl) ?_
    exact GL.jump (fun _ _ h => h) (r22, (w .i64 (x1.2 + 1))) h ⟨rfl, rfl, rfl, trivial⟩
  · replace h := And.right h hc4
    refine GC.exit_to (fun _ _ h => h) ?_
    refine GC.seq ?_
    refine GC.region ?_
    refine GL.val trivial rfl (OV.move (v := slv x1.1) rfl) ?_
    refine GL.val trivial rfl (OV.assign (v := slv x1.1) rfl) ?_
    refine GL.nil ?_
    exact GC.ret (fun _ _ hf hs => post_tmp1 rfl rfl hf hs ⟨x1.1, rfl, h⟩)

def sh_value_Sort (C : Ctx) (p_l : Sl) (K : Sl → Heap → Prop) (H : Heap) : Prop :=
  lp (α := Sl × Int) (Sl.nil, 0) H (fun x1 J2 H3 =>
 ift (decide ((x1.2 : Int) < (Sl.len p_l : Int)))
 (ixa p_l x1.2 fun p5 =>
 ldL H3 (p5.1, p5.2 + (x1.2 : Int).toNat * 1) fun x10 =>
 c_value_own C x10 (fun r12 H13 =>
 apd ([slv Sl.nil]) 24 x1.1 ([slv r12]) 1 (fun r14 H15 =>
 J2 (r14, (w .i64 (x1.2 + 1))) H15) H13) H3)
 (c_slices_SortStableFunc_api_Value_api_Value C x1.1 (.func (.func 7) (List.toArray []) (List.toArray []) : Value) (fun H16 =>
 c_slices_CompactFunc_api_Value_api_Value C x1.1 (.func (.func 30) (List.toArray []) (List.toArray []) : Value) (fun r17 H18 =>
 K r17 H18) H16) H3))

theorem ad_value_Sort (C : Ctx) (p_l : Sl) (K : Sl → Heap → Prop) (H : Heap) (h : sh_value_Sort C p_l K H) : c_value_Sort C p_l K H := by
  refine Spec.enter Tryz.func12 rfl Tryz.ntmps12 rfl ?_
  refine GC.sub [(0, slv p_l)] ⟨rfl, trivial⟩ ?_
  refine GC.seq ?_
  refine GC.region ?_
  refine GL.val trivial rfl (OV.assign (v := slv Sl.nil) rfl) ?_
  refine GL.nil ?_
  refine GC.seq ?_
  refine GC.region ?_
  refine GL.val trivial rfl (OV.assign (v := slv Sl.nil) rfl) ?_
  refine GL.nil ?_
  refine GC.seq ?_
  refine GC.seq ?_
  refine GC.region ?_
  refine GL.val trivial rfl (OV.move (v := slv p_l) rfl) ?_
  refine GL.val trivial rfl (OV.lenSl (s := p_l) rfl rfl) ?_
  refine GL.val trivial rfl (OV.move (v := .int .i64 0) rfl) ?_
  refine GL.nil ?_
  refine GC.block ?_
  refine GC.loop (α := Sl × Int) h (fun x1 => [(3, slv x1.1), (8, .int .i64 x1.2), (6, slv p_l), (7, .int .i64 (Sl.len p_l : Int))]) ⟨rfl, rfl, rfl, rfl, trivial⟩ ?_
  intro x1 H3 J2 h
  refine GC.seq ?_
  refine GC.region ?_
  refine GL.val trivial rfl (OV.ibin (v := .bool (decide ((x1.2 : Int) < (Sl.len p_l : Int)))) rfl rfl rfl) ?_
  refine GL.nil ?_
  refine GC.seq ?_
  refine GC.cond (b := decide ((x1.2 : Int) < (Sl.len p_l : Int))) rfl (fun hc4 => ?_) (fun hc4 => ?_)
  · replace h := And.left h hc4
    refine GC.skip ?_
    refine GC.seq ?_
    refine GC.block ?_
    refine GC.seq ?_
    refine GC.region ?_
    obtain ⟨p5, ha6, hb7, hc8, hd9, h⟩ := h
    refine GL.val trivial rfl (OV.indexAddr (s := p_l) rfl rfl rfl rfl ha6 hb7 hc8 hd9) ?_
    obtain ⟨x10, hr11, h⟩ := h
    refine GL.val trivial rfl (OV.load (p := (p5.1, p5.2 + (x1.2 : Int).toNat * 1)) rfl rfl hr11) ?_
    refine GL.val trivial rfl (OV.assign (v := slv x10) rfl) ?_
    refine GL.nil ?_
    refine GC.region ?_
    refine GL.val trivial rfl (OV.move (v := slv x1.1) rfl) ?_
    refine GL.val trivial rfl (OV.move (v := slv x10) rfl) ?_
    refine GL.call h trivial rfl ok_value_own (vs := [slv x10]) rfl ?_
    rintro _ H13 ⟨r12, rfl, h⟩
    refine GL.appendLit (s := x1.1) (ys := [slv r12]) (zc := [slv Sl.nil]) (bytes := 24) h trivial rfl (fun _ => trivial) rfl (fun _ => rfl) (fun _ => rfl) (vs := [(0, slv r12)]) rfl ⟨22, fun _ => by kernel_rfl⟩ ⟨⟨_, _, _, rfl, rfl, rfl, rfl, rfl, rfl⟩⟩ rfl rfl ?_
    intro _ r14 H15 h
    refine GL.val trivial rfl (OV.assign (v := slv r14) rfl) ?_
    refine GL.nil_to (fun _ _ h => h) ?_
    refine GC.region ?_
    refine GL.val trivial rfl (OV.ibin (v := .int .i64 (w .i64 (x1.2 + 1))) rfl rfl rfl) ?_
    refine GL.val trivial rfl (OV.move (v := .int .i64 (w .i64 (x1.2 + 1))) rfl) ?_
    exact GL.jump (fun _ _ h => h) (r14, (w .i64 (x1.2 + 1))) h ⟨rfl, rfl, rfl, rfl, trivial⟩
  · replace h := And.right h hc4
    refine GC.exit_to (fun _ _ h => h) ?_
    refine GC.seq ?_
    refine GC.region ?_
    refine GL.val trivial rfl (OV.move (v := slv x1.1) rfl) ?_
    refine GL.call h trivial rfl ok_slices_SortStableFunc_api_Value_api_Value (vs := [slv x1.1, .func (.func 7) (List.toArray []) (List.toArray [])]) rfl ?_
    rintro _ H16 ⟨rfl, h⟩
    refine GL.nil ?_
    refine GC.seq ?_
    refine GC.region ?_
    refine GL.val trivial rfl (OV.move (v := slv x1.1) rfl) ?_
    refine GL.call h trivial rfl ok_slices_CompactFunc_api_Value_api_Value (vs := [slv x1.1, .func (.func 30) (List.toArray []) (List.toArray [])]) rfl ?_
    rintro _ H18 ⟨r17, rfl, h⟩
    refine GL.val trivial rfl (OV.assign (v := slv r17) rfl) ?_
    refine GL.nil ?_
    exact GC.ret (fun _ _ hf hs => post_tmp1 rfl rfl hf hs ⟨r17, rfl, h⟩)

def sh_ref02_Sort (C : Ctx) (p_l : Sl) (K : Sl → Heap → Prop) (H : Heap) : Prop :=
  ift (((Sl.len p_l : Int) : Int) == 0)
 (K Sl.nil H)
 (ift (((Sl.len p_l : Int) : Int) == 1)
 (ixa p_l 0 fun p3 =>
 ldL H (p3.1, p3.2 + (0 : Int).toNat * 1) fun x8 =>
 c_ref02_Own C x8 (fun r10 H11 =>
 nw ([slv r10]) (fun b12 H13 =>
 K (Sl.of (some (b12, 0)) 1 1) H13) H11) H)
 (dr H fun Hs14 =>
 slL p_l 0 (w .i64 (Int.tdiv (Sl.len p_l : Int) 2)) (Sl.cap p_l : Int) 1 fun t16 =>
 slL p_l (w .i64 (Int.tdiv (Sl.len p_l : Int) 2)) (Sl.len p_l : Int) (Sl.cap p_l : Int) 1 fun t22 =>
 c_ref02_Sort C t16 (fun r29 H30 =>
 Heap.le Hs14 H30 ∧
 c_ref02_Sort C t22 (fun r32 H33 =>
 Heap.le Hs14 H33 ∧
 lp (α := Sl × Int × Int) (Sl.nil, 0, 0) H33 (fun x34 J35 H36 =>
 ift ((decide ((x34.2.1 : Int) < (Sl.len r29 : Int))) || (decide ((x34.2.2 : Int) < (Sl.len r32 : Int))))
 (jn (α := Int) (fun x40 H41 =>
 jn (α := Sl × Int) (fun x65 H66 =>
 ift (decide ((x40 : Int) ≥ 0))
 (J35 (x65.1, x65.2, (w .i64 (x34.2.2 + 1))) H66)
 (J35 (x65.1, x65.2, x34.2.2) H66))
 (fun J64 => ift (decide ((x40 : Int) ≤ 0))
 (ixa r29 x34.2.1 fun p69 =>
 ldL H41 (p69.1, p69.2 + (x34.2.1 : Int).toNat * 1) fun x74 =>
 apd ([slv Sl.nil]) 24 x34.1 ([slv x74]) 1 (fun r76 H77 =>
 J64 (r76, (w .i64 (x34.2.1 + 1))) H77) H41)
 (ixa r32 x34.2.2 fun p78 =>
 ldL H41 (p78.1, p78.2 + (x34.2.2 : Int).toNat * 1) fun x83 =>
 apd ([slv Sl.nil]) 24 x34.1 ([slv x83]) 1 (fun r85 H86 =>
 J64 (r85, x34.2.1) H86) H41)))
 (fun J39 => ift ((x34.2.1 : Int) == (Sl.len r29 : Int))
 (J39 1 H36)
 (ift (decide ((x34.2.2 : Int) < (Sl.len r32 : Int)))
 (dr H36 fun Hs45 =>
 ixa r29 x34.2.1 fun p47 =>
 ldL Hs45 (p47.1, p47.2 + (x34.2.1 : Int).toNat * 1) fun x52 =>
 ixa r32 x34.2.2 fun p54 =>
 ldL Hs45 (p54.1, p54.2 + (x34.2.2 : Int).toNat * 1) fun x59 =>
 c_ref02_CmpRows C x52 x59 (fun r62 H63 =>
 Heap.le Hs45 H63 ∧
 J39 r62 H63) H36)
 (J39 (-1) H36))))
 (K x34.1 H36))) H30) H))

theorem ad_ref02_Sort (C : Ctx) (p_l : Sl) (K : Sl → Heap → Prop) (H : Heap) (h : sh_ref02_Sort C p_l K H) : c_ref02_Sort C p_l K H := by
  refine Spec.enter Tryz.func13 rfl Tryz.ntmps13 rfl ?_
  refine GC.sub [(0, slv p_l)] ⟨rfl, trivial⟩ ?_
  refine GC.seq ?_
  refine GC.region ?_
  refine GL.val trivial rfl (OV.assign (v := slv Sl.nil) rfl) ?_
  refine GL.nil ?_
  refine GC.seq ?_
  refine GC.seq ?_
  refine GC.region ?_
  refine GL.val trivial rfl (OV.move (v := slv p_l) rfl) ?_
  refine GL.val trivial rfl (OV.lenSl (s := p_l) rfl rfl) ?_
  refine GL.val trivial rfl (OV.ibin (v := .bool (((Sl.len p_l : Int) : Int) == 0)) rfl rfl rfl) ?_
  refine GL.nil ?_
  refine GC.cond (b := ((Sl.len p_l : Int) : Int) == 0) rfl (fun hc1 => ?_) (fun hc1 => ?_)
  · replace h := And.left h hc1
    refine GC.seq ?_
    refine GC.region ?_
    refine GL.val trivial rfl (OV.assign (v := slv Sl.nil) rfl) ?_
    refine GL.nil ?_
    exact GC.ret (fun _ _ hf hs => post_tmp1 rfl rfl hf hs ⟨Sl.nil, rfl, h⟩)
  · replace h := And.right h hc1
    refine GC.skip ?_
    refine GC.seq ?_
    refine GC.seq ?_
    refine GC.region ?_
    refine GL.val trivial rfl (OV.move (v := slv p_l) rfl) ?_
    refine GL.val trivial rfl (OV.lenSl (s := p_l) rfl rfl) ?_
    refine GL.val trivial rfl (OV.ibin (v := .bool (((Sl.len p_l : Int) : Int) == 1)) rfl rfl rfl) ?_
    refine GL.nil ?_
    refine GC.cond (b := ((Sl.len p_l : Int) : Int) == 1) rfl (fun hc2 => ?_) (fun hc2 => ?_)
    · replace h := And.left h hc2
      refine GC.seq ?_
      refine GC.region ?_
      refine GL.val trivial rfl (OV.move (v := slv p_l) rfl) ?_
      obtain ⟨p3, ha4, hb5, hc6, hd7, h⟩ := h
      refine GL.val trivial rfl (OV.indexAddr (s := p_l) rfl rfl rfl rfl ha4 hb5 hc6 hd7) ?_
      obtain ⟨x8, hr9, h⟩ := h
      refine GL.val trivial rfl (OV.load (p := (p3.1, p3.2 + (0 : Int).toNat * 1)) rfl rfl hr9) ?_
      refine GL.call h trivial rfl ok_ref02_Own (vs := [slv x8]) rfl ?_
      rintro _ H11 ⟨r10, rfl, h⟩
      refine GL.buildSlice (cs := [slv r10]) h trivial rfl (vs := [(0, slv r10)]) rfl ⟨22, fun _ => by kernel_rfl⟩ ?_
      intro b12 H13 h
      refine GL.val trivial rfl (OV.assign (v := slv (Sl.of (some (b12, 0)) 1 1)) rfl) ?_
      refine GL.nil ?_
      exact GC.ret (fun _ _ hf hs => post_tmp1 rfl rfl hf hs ⟨(Sl.of (some (b12, 0)) 1 1), rfl, h⟩)
    · replace h := And.right h hc2
      refine GC.skip ?_
      refine GC.seq ?_
      obtain ⟨Hs14, hle15, h⟩ := h
      refine GC.any (Hs := Hs14) (by kernel_rfl) hle15 ?_
      refine GA.take 0 rfl (by kernel_rfl) (by kernel_rfl) (by kernel_rfl) (fun _ _ _ h => False.elim h) trivial rfl (OV.move (v := slv p_l) rfl) ?_
      refine GA.take 1 rfl (by kernel_rfl) (by kernel_rfl) (by kernel_rfl) (fun _ _ _ h => False.elim h) trivial rfl (OV.move (v := slv p_l) rfl) ?_
      refine GA.take 2 rfl (by kernel_rfl) (by kernel_rfl) (by kernel_rfl) (fun _ _ _ h => False.elim h) trivial rfl (OV.lenSl (s := p_l) rfl rfl) ?_
      refine GA.take 3 rfl (by kernel_rfl) (by kernel_rfl) (by kernel_rfl) (fun _ _ _ h => False.elim h) trivial rfl (OV.quo rfl rfl (by decide)) ?_
      obtain ⟨h17, h18, h19, h20, t16, h21, h⟩ := h
      refine GA.take 4 rfl (by kernel_rfl) (by kernel_rfl) (by kernel_rfl) (fun _ _ _ h => False.elim h) trivial rfl (OV.sliceSl (s := p_l) h17 h18 h19 h20 h21 rfl rfl rfl rfl rfl rfl rfl (fun h => by first | rfl | cases h) rfl rfl) ?_
      refine GA.take 6 rfl (by kernel_rfl) (by kernel_rfl) (by kernel_rfl) (fun _ _ _ h => False.elim h) trivial rfl (OV.move (v := slv p_l) rfl) ?_
      refine GA.take 7 rfl (by kernel_rfl) (by kernel_rfl) (by kernel_rfl) (fun _ _ _ h => False.elim h) trivial rfl (OV.move (v := slv p_l) rfl) ?_
      refine GA.take 8 rfl (by kernel_rfl) (by kernel_rfl) (by kernel_rfl) (fun _ _ _ h => False.elim h) trivial rfl (OV.lenSl (s := p_l) rfl rfl) ?_
      refine GA.take 9 rfl (by kernel_rfl) (by kernel_rfl) (by kernel_rfl) (fun _ _ _ h => False.elim h) trivial rfl (OV.quo rfl rfl (by decide)) ?_
      obtain ⟨h23, h24, h25, h26, t22, h27, h⟩ := h
      refine GA.take 10 rfl (by kernel_rfl) (by kernel_rfl) (by kernel_rfl) (fun _ _ _ h => False.elim h) trivial rfl (OV.sliceSl (s := p_l) h23 h24 h25 h26 h27 rfl rfl rfl rfl rfl rfl rfl (fun h => by first | rfl | cases h) rfl rfl) ?_
      refine GA.eff 5 rfl (by kernel_rfl) ?_
      refine GL.call h trivial rfl ok_ref02_Sort (vs := [slv t16]) rfl ?_
      rintro _ H30 ⟨r29, rfl, h⟩
      obtain ⟨hle28, h⟩ := h
      refine GA.back hle28 ?_
      refine GA.eff 11 rfl (by kernel_rfl) ?_
      refine GL.call h trivial rfl ok_ref02_Sort (vs := [slv t22]) rfl ?_
      rintro _ H33 ⟨r32, rfl, h⟩
      obtain ⟨hle31, h⟩ := h
      refine GA.back hle31 ?_
      refine GA.take 12 rfl (by kernel_rfl) (by kernel_rfl) (by kernel_rfl) (fun _ _ _ h => False.elim h) trivial rfl (OV.assign (v := slv r29) rfl) ?_
      refine GA.take 13 rfl (by kernel_rfl) (by kernel_rfl) (by kernel_rfl) (fun _ _ _ h => False.elim h) trivial rfl (OV.assign (v := slv r32) rfl) ?_
      refine GA.done (by kernel_rfl) ?_
      refine GL.nil ?_
      refine GC.seq ?_
      refine GC.region ?_
      refine GL.val trivial rfl (OV.assign (v := slv Sl.nil) rfl) ?_
      refine GL.nil ?_
      refine GC.seq ?_
      refine GC.region ?_
      refine GL.val trivial rfl (OV.assign (v := .int .i64 0) rfl) ?_
      refine GL.val trivial rfl (OV.assign (v := .int .i64 0) rfl) ?_
      refine GL.nil ?_
      refine GC.seq ?_
      refine GC.block ?_
      refine GC.loop (α := Sl × Int × Int) h (fun x34 => [(5, slv x34.1), (6, .int .i64 x34.2.1), (7, .int .i64 x34.2.2), (3, slv r29), (4, slv r32)]) ⟨rfl, rfl, rfl, rfl, rfl, trivial⟩ ?_
      intro x34 H36 J35 h
      refine GC.seq ?_
      refine GC.seq ?_
      refine GC.region ?_
      refine GL.val trivial rfl (OV.move (v := .int .i64 x34.2.1) rfl) ?_
      refine GL.val trivial rfl (OV.move (v := slv r29) rfl) ?_
      refine GL.val trivial rfl (OV.lenSl (s := r29) rfl rfl) ?_
      refine GL.val trivial rfl (OV.ibin (v := .bool (decide ((x34.2.1 : Int) < (Sl.len r29 : Int)))) rfl rfl rfl) ?_
      refine GL.val trivial rfl (OV.move (v := .bool (decide ((x34.2.1 : Int) < (Sl.len r29 : Int)))) rfl) ?_
      refine GL.cut0 5 [(41, .bool ((decide ((x34.2.1 : Int) < (Sl.len r29 : Int))) || (decide ((x34.2.2 : Int) < (Sl.len r32 : Int))))), (3, slv r29), (4, slv r32), (5, slv x34.1), (6, .int .i64 x34.2.1), (7, .int .i64 x34.2.2)] ?_ ?_
      · rcases Bool.eq_false_or_eq_true (decide ((x34.2.1 : Int) < (Sl.len r29 : Int))) with hc37 | hc37
        · skip
          refine GL.skip ⟨_, rfl, .inl ⟨_, rfl, hc37⟩⟩ rfl ?_
          refine GL.skip ⟨_, rfl, .inl ⟨_, rfl, hc37⟩⟩ rfl ?_
          refine GL.skip ⟨_, rfl, .inl ⟨_, rfl, hc37⟩⟩ rfl ?_
          refine GL.skip ⟨_, rfl, .inl ⟨_, rfl, hc37⟩⟩ rfl ?_
          refine GL.val trivial rfl (OV.pickT (b := decide ((x34.2.1 : Int) < (Sl.len r29 : Int))) (v := .bool true) rfl hc37 rfl) ?_
          exact GL.jump0 (fun _ _ h => h) () rfl ⟨(by rw [hc37]; rfl), rfl, rfl, rfl, rfl, rfl, trivial⟩
        · skip
          refine GL.val ⟨_, _, rfl, rfl, hc37⟩ rfl (OV.move (v := .int .i64 x34.2.2) rfl) ?_
          refine GL.val ⟨_, _, rfl, rfl, hc37⟩ rfl (OV.move (v := slv r32) rfl) ?_
          refine GL.val ⟨_, _, rfl, rfl, hc37⟩ rfl (OV.lenSl (s := r32) rfl rfl) ?_
          refine GL.val ⟨_, _, rfl, rfl, hc37⟩ rfl (OV.ibin (v := .bool (decide ((x34.2.2 : Int) < (Sl.len r32 : Int)))) rfl rfl rfl) ?_
          refine GL.val trivial rfl (OV.pickF (b := decide ((x34.2.1 : Int) < (Sl.len r29 : Int))) (v := .bool (decide ((x34.2.2 : Int) < (Sl.len r32 : Int)))) rfl hc37 rfl) ?_
          exact GL.jump0 (fun _ _ h => h) () rfl ⟨(by rw [hc37]; rfl), rfl, rfl, rfl, rfl, rfl, trivial⟩
      refine GL.nil ?_
      refine GC.cond (b := (decide ((x34.2.1 : Int) < (Sl.len r29 : Int))) || (decide ((x34.2.2 : Int) < (Sl.len r32 : Int)))) rfl (fun hc38 => ?_) (fun hc38 => ?_)
      · replace h := And.left h hc38
        refine GC.skip ?_
        refine GC.block ?_
        refine GC.seq ?_
        refine GC.region ?_
        refine GL.val trivial rfl (OV.assign (v := .int .i64 (-1)) rfl) ?_
        refine GL.nil ?_
        obtain ⟨J39, h, hR42⟩ := h
        refine GC.join (α := Int) J39 (fun x40 => [(8, .int .i64 x40), (3, slv r29), (4, slv r32), (5, slv x34.1), (6, .int .i64 x34.2.1), (7, .int .i64 x34.2.2)]) ?_ ?_
        · skip
          refine GC.seq ?_
          refine GC.region ?_
          refine GL.val trivial rfl (OV.move (v := .int .i64 x34.2.1) rfl) ?_
          refine GL.val trivial rfl (OV.move (v := slv r29) rfl) ?_
          refine GL.val trivial rfl (OV.lenSl (s := r29) rfl rfl) ?_
          refine GL.val trivial rfl (OV.ibin (v := .bool ((x34.2.1 : Int) == (Sl.len r29 : Int))) rfl rfl rfl) ?_
          refine GL.nil ?_
          refine GC.cond (b := (x34.2.1 : Int) == (Sl.len r29 : Int)) rfl (fun hc43 => ?_) (fun hc43 => ?_)
          · replace h := And.left h hc43
            refine GC.region ?_
            refine GL.val trivial rfl (OV.assign (v := .int .i64 1) rfl) ?_
            exact GL.jump (fun _ _ h => h) 1 h ⟨rfl, rfl, rfl, rfl, rfl, rfl, trivial⟩
          · replace h := And.right h hc43
            refine GC.seq ?_
            refine GC.region ?_
            refine GL.val trivial rfl (OV.move (v := .int .i64 x34.2.2) rfl) ?_
            refine GL.val trivial rfl (OV.move (v := slv r32) rfl) ?_
            refine GL.val trivial rfl (OV.lenSl (s := r32) rfl rfl) ?_
            refine GL.val trivial rfl (OV.ibin (v := .bool (decide ((x34.2.2 : Int) < (Sl.len r32 : Int)))) rfl rfl rfl) ?_
            refine GL.nil ?_
            refine GC.cond (b := decide ((x34.2.2 : Int) < (Sl.len r32 : Int))) rfl (fun hc44 => ?_) (fun hc44 => ?_)
            · replace h := And.left h hc44
              obtain ⟨Hs45, hle46, h⟩ := h
              refine GC.any (Hs := Hs45) (by kernel_rfl) hle46 ?_
              refine GA.take 0 rfl (by kernel_rfl) (by kernel_rfl) (by kernel_rfl) (fun _ _ _ h => False.elim h) trivial rfl (OV.move (v := slv r29) rfl) ?_
              refine GA.take 1 rfl (by kernel_rfl) (by kernel_rfl) (by kernel_rfl) (fun _ _ _ h => False.elim h) trivial rfl (OV.move (v := .int .i64 x34.2.1) rfl) ?_
              obtain ⟨p47, ha48, hb49, hc50, hd51, h⟩ := h
              refine GA.take 2 rfl (by kernel_rfl) (by kernel_rfl) (by kernel_rfl) (fun _ _ _ h => False.elim h) trivial rfl (OV.indexAddr (s := r29) rfl rfl rfl rfl ha48 hb49 hc50 hd51) ?_
              obtain ⟨x52, hr53, h⟩ := h
              refine GA.take 3 rfl (by kernel_rfl) (by kernel_rfl) (by kernel_rfl) (fun _ _ _ h => False.elim h) trivial rfl (OV.load (p := (p47.1, p47.2 + (x34.2.1 : Int).toNat * 1)) rfl rfl hr53) ?_
              refine GA.take 4 rfl (by kernel_rfl) (by kernel_rfl) (by kernel_rfl) (fun _ _ _ h => False.elim h) trivial rfl (OV.move (v := slv r32) rfl) ?_
              refine GA.take 5 rfl (by kernel_rfl) (by kernel_rfl) (by kernel_rfl) (fun _ _ _ h => False.elim h) trivial rfl (OV.move (v := .int .i64 x34.2.2) rfl) ?_
              obtain ⟨p54, ha55, hb56, hc57, hd58, h⟩ := h
              refine GA.take 6 rfl (by kernel_rfl) (by kernel_rfl) (by kernel_rfl) (fun _ _ _ h => False.elim h) trivial rfl (OV.indexAddr (s := r32) rfl rfl rfl rfl ha55 hb56 hc57 hd58) ?_
              obtain ⟨x59, hr60, h⟩ := h
              refine GA.take 7 rfl (by kernel_rfl) (by kernel_rfl) (by kernel_rfl) (fun _ _ _ h => False.elim h) trivial rfl (OV.load (p := (p54.1, p54.2 + (x34.2.2 : Int).toNat * 1)) rfl rfl hr60) ?_
              refine GA.eff 8 rfl (by kernel_rfl) ?_
              refine GL.call h trivial rfl ok_ref02_CmpRows (vs := [slv x52, slv x59]) rfl ?_
              rintro _ H63 ⟨r62, rfl, h⟩
              obtain ⟨hle61, h⟩ := h
              refine GA.back hle61 ?_
              refine GA.take 9 rfl (by kernel_rfl) (by kernel_rfl) (by kernel_rfl) (fun _ _ _ h => False.elim h) trivial rfl (OV.assign (v := .int .i64 r62) rfl) ?_
              refine GA.done (by kernel_rfl) ?_
              exact GL.jump (fun _ _ h => h) r62 h ⟨rfl, rfl, rfl, rfl, rfl, rfl, trivial⟩
            · replace h := And.right h hc44
              exact GC.jump (fun _ _ h => h) (-1) h ⟨rfl, rfl, rfl, rfl, rfl, rfl, trivial⟩
        · intro x40 H41 h
          replace h := hR42 x40 H41 h
          obtain ⟨J64, h, hR67⟩ := h
          refine GC.join (α := Sl × Int) J64 (fun x65 => [(5, slv x65.1), (6, .int .i64 x65.2), (3, slv r29), (4, slv r32), (7, .int .i64 x34.2.2), (8, .int .i64 x40)]) ?_ ?_
          · skip
            refine GC.seq ?_
            refine GC.region ?_
            refine GL.val trivial rfl (OV.move (v := .int .i64 x40) rfl) ?_
            refine GL.val trivial rfl (OV.ibin (v := .bool (decide ((x40 : Int) ≤ 0))) rfl rfl rfl) ?_
            refine GL.nil ?_
            refine GC.cond (b := decide ((x40 : Int) ≤ 0)) rfl (fun hc68 => ?_) (fun hc68 => ?_)
            · replace h := And.left h hc68
              refine GC.seq ?_
              refine GC.region ?_
              refine GL.val trivial rfl (OV.move (v := slv x34.1) rfl) ?_
              refine GL.val trivial rfl (OV.move (v := slv r29) rfl) ?_
              refine GL.val trivial rfl (OV.move (v := .int .i64 x34.2.1) rfl) ?_
              obtain ⟨p69, ha70, hb71, hc72, hd73, h⟩ := h
              refine GL.val trivial rfl (OV.indexAddr (s := r29) rfl rfl rfl rfl ha70 hb71 hc72 hd73) ?_
              obtain ⟨x74, hr75, h⟩ := h
              refine GL.val trivial rfl (OV.load (p := (p69.1, p69.2 + (x34.2.1 : Int).toNat * 1)) rfl rfl hr75) ?_
              refine GL.appendLit (s := x34.1) (ys := [slv x74]) (zc := [slv Sl.nil]) (bytes := 24) h trivial rfl (fun _ => trivial) rfl (fun _ => rfl) (fun _ => rfl) (vs := [(0, slv x74)]) rfl ⟨22, fun _ => by kernel_rfl⟩ ⟨⟨_, _, _, rfl, rfl, rfl, rfl, rfl, rfl⟩⟩ rfl rfl ?_
              intro _ r76 H77 h
              refine GL.val trivial rfl (OV.assign (v := slv r76) rfl) ?_
              refine GL.nil ?_
              refine GC.region ?_
              refine GL.val trivial rfl (OV.move (v := .int .i64 x34.2.1) rfl) ?_
              refine GL.val trivial rfl (OV.ibin (v := .int .i64 (w .i64 (x34.2.1 + 1))) rfl rfl rfl) ?_
              refine GL.val trivial rfl (OV.assign (v := .int .i64 (w .i64 (x34.2.1 + 1))) rfl) ?_
              exact GL.jump (fun _ _ h => h) (r76, (w .i64 (x34.2.1 + 1))) h ⟨rfl, rfl, rfl, rfl, rfl, rfl, trivial⟩
            · replace h := And.right h hc68
              refine GC.region ?_
              refine GL.val trivial rfl (OV.move (v := slv x34.1) rfl) ?_
              refine GL.val trivial rfl (OV.move (v := slv r32) rfl) ?_
              refine GL.val trivial rfl (OV.move (v := .int .i64 x34.2.2) rfl) ?_
              obtain ⟨p78, ha79, hb80, hc81, hd82, h⟩ := h
              refine GL.val trivial rfl (OV.indexAddr (s := r32) rfl rfl rfl rfl ha79 hb80 hc81 hd82) ?_
              obtain ⟨x83, hr84, h⟩ := h
              refine GL.val trivial rfl (OV.load (p := (p78.1, p78.2 + (x34.2.2 : Int).toNat * 1)) rfl rfl hr84) ?_
              refine GL.appendLit (s := x34.1) (ys := [slv x83]) (zc := [slv Sl.nil]) (bytes := 24) h trivial rfl (fun _ => trivial) rfl (fun _ => rfl) (fun _ => rfl) (vs := [(0, slv x83)]) rfl ⟨22, fun _ => by kernel_rfl⟩ ⟨⟨_, _, _, rfl, rfl, rfl, rfl, rfl, rfl⟩⟩ rfl rfl ?_
              intro _ r85 H86 h
              refine GL.val trivial rfl (OV.assign (v := slv r85) rfl) ?_
              exact GL.jump (fun _ _ h => h) (r85, x34.2.1) h ⟨rfl, rfl, rfl, rfl, rfl, rfl, trivial⟩
          · intro x65 H66 h
            replace h := hR67 x65 H66 h
            refine GC.seq ?_
            refine GC.region ?_
            refine GL.val trivial rfl (OV.move (v := .int .i64 x40) rfl) ?_
            refine GL.val trivial rfl (OV.ibin (v := .bool (decide ((x40 : Int) ≥ 0))) rfl rfl rfl) ?_
            refine GL.nil ?_
            refine GC.cond (b := decide ((x40 : Int) ≥ 0)) rfl (fun hc87 => ?_) (fun hc87 => ?_)
            · replace h := And.left h hc87
              refine GC.region ?_
              refine GL.val trivial rfl (OV.move (v := .int .i64 x34.2.2) rfl) ?_
              refine GL.val trivial rfl (OV.ibin (v := .int .i64 (w .i64 (x34.2.2 + 1))) rfl rfl rfl) ?_
              refine GL.val trivial rfl (OV.assign (v := .int .i64 (w .i64 (x34.2.2 + 1))) rfl) ?_
              exact GL.jump (fun _ _ h => h) (x65.1, x65.2, (w .i64 (x34.2.2 + 1))) h ⟨rfl, rfl, rfl, rfl, rfl, trivial⟩
            · replace h := And.right h hc87
              exact GC.jump (fun _ _ h => h) (x65.1, x65.2, x34.2.2) h ⟨rfl, rfl, rfl, rfl, rfl, trivial⟩
      · replace h := And.right h hc38
        refine GC.exit_to (fun _ _ h => h) ?_
        refine GC.seq ?_
        refine GC.region ?_
        refine GL.val trivial rfl (OV.move (v := slv x34.1) rfl) ?_
        refine GL.val trivial rfl (OV.assign (v := slv x34.1) rfl) ?_
        refine GL.nil ?_
        exact GC.ret (fun _ _ hf hs => post_tmp1 rfl rfl hf hs ⟨x34.1, rfl, h⟩)

def sh_ref02_SameRows (C : Ctx) (p_a : Sl) (p_b : Sl) (K : Bool → Heap → Prop) (H : Heap) : Prop :=
  ift (((Sl.len p_a : Int) : Int) != (Sl.len p_b : Int))
 (K false H)
 (lp (α := Int) 0 H (fun x2 J3 H4 =>
 ift (decide ((x2 : Int) < (Sl.len p_a : Int)))
 (dr H4 fun Hs6 =>
 ixa p_a x2 fun p8 =>
 ldL Hs6 (p8.1, p8.2 + (x2 : Int).toNat * 1) fun x13 =>
 ixa p_b x2 fun p15 =>
 ldL Hs6 (p15.1, p15.2 + (x2 : Int).toNat * 1) fun x20 =>
 c_ref02_SameRow C x13 x20 (fun r23 H24 =>
 Heap.le Hs6 H24 ∧
 ift (!r23)
 (K false H24)
 (J3 (w .i64 (x2 + 1)) H24)) H4)
 (K true H4)))

theorem ad_ref02_SameRows (C : Ctx) (p_a : Sl) (p_b : Sl) (K : Bool → Heap → Prop) (H : Heap) (h : sh_ref02_SameRows C p_a p_b K H) : c_ref02_SameRows C p_a p_b K H := by
  refine Spec.enter Tryz.func14 rfl Tryz.ntmps14 rfl ?_
  refine GC.sub [(0, slv p_a), (1, slv p_b)] ⟨rfl, rfl, trivial⟩ ?_
  refine GC.seq ?_
  refine GC.region ?_
  refine GL.val trivial rfl (OV.assign (v := .bool false) rfl) ?_
  refine GL.nil ?_
  refine GC.seq ?_
  refine GC.seq ?_
  refine GC.region ?_
  refine GL.val trivial rfl (OV.move (v := slv p_a) rfl) ?_
  refine GL.val trivial rfl (OV.lenSl (s := p_a) rfl rfl) ?_
  refine GL.val trivial rfl (OV.move (v := slv p_b) rfl) ?_
  refine GL.val trivial rfl (OV.lenSl (s := p_b) rfl rfl) ?_
  refine GL.val trivial rfl (OV.ibin (v := .bool (((Sl.len p_a : Int) : Int) != (Sl.len p_b : Int))) rfl rfl rfl) ?_
  refine GL.nil ?_
  refine GC.cond (b := ((Sl.len p_a : Int) : Int) != (Sl.len p_b : Int)) rfl (fun hc1 => ?_) (fun hc1 => ?_)
  · replace h := And.left h hc1
    refine GC.seq ?_
    refine GC.region ?_
    refine GL.val trivial rfl (OV.assign (v := .bool false) rfl) ?_
    refine GL.nil ?_
    exact GC.ret (fun _ _ hf hs => post_tmp1 rfl rfl hf hs ⟨false, rfl, h⟩)
  · replace h := And.right h hc1
    refine GC.skip ?_
    refine GC.seq ?_
    refine GC.seq ?_
    refine GC.region ?_
    refine GL.val trivial rfl (OV.assign (v := .int .i64 0) rfl) ?_
    refine GL.nil ?_
    refine GC.block ?_
    refine GC.loop (α := Int) h (fun x2 => [(5, .int .i64 x2), (0, slv p_a), (1, slv p_b)]) ⟨rfl, rfl, rfl, trivial⟩ ?_
    intro x2 H4 J3 h
    refine GC.seq ?_
    refine GC.seq ?_
    refine GC.region ?_
    refine GL.val trivial rfl (OV.move (v := .int .i64 x2) rfl) ?_
    refine GL.val trivial rfl (OV.move (v := slv p_a) rfl) ?_
    refine GL.val trivial rfl (OV.lenSl (s := p_a) rfl rfl) ?_
    refine GL.val trivial rfl (OV.ibin (v := .bool (decide ((x2 : Int) < (Sl.len p_a : Int)))) rfl rfl rfl) ?_
    refine GL.nil ?_
    refine GC.cond (b := decide ((x2 : Int) < (Sl.len p_a : Int))) rfl (fun hc5 => ?_) (fun hc5 => ?_)
    · replace h := And.left h hc5
      refine GC.skip ?_
      refine GC.seq ?_
      refine GC.block ?_
      refine GC.seq ?_
      obtain ⟨Hs6, hle7, h⟩ := h
      refine GC.any (Hs := Hs6) (by kernel_rfl) hle7 ?_
      refine GA.take 0 rfl (by kernel_rfl) (by kernel_rfl) (by kernel_rfl) (fun _ _ _ h => False.elim h) trivial rfl (OV.move (v := slv p_a) rfl) ?_
      refine GA.take 1 rfl (by kernel_rfl) (by kernel_rfl) (by kernel_rfl) (fun _ _ _ h => False.elim h) trivial rfl (OV.move (v := .int .i64 x2) rfl) ?_
      obtain ⟨p8, ha9, hb10, hc11, hd12, h⟩ := h
      refine GA.take 2 rfl (by kernel_rfl) (by kernel_rfl) (by kernel_rfl) (fun _ _ _ h => False.elim h) trivial rfl (OV.indexAddr (s := p_a) rfl rfl rfl rfl ha9 hb10 hc11 hd12) ?_
      obtain ⟨x13, hr14, h⟩ := h
      refine GA.take 3 rfl (by kernel_rfl) (by kernel_rfl) (by kernel_rfl) (fun _ _ _ h => False.elim h) trivial rfl (OV.load (p := (p8.1, p8.2 + (x2 : Int).toNat * 1)) rfl rfl hr14) ?_
      refine GA.take 4 rfl (by kernel_rfl) (by kernel_rfl) (by kernel_rfl) (fun _ _ _ h => False.elim h) trivial rfl (OV.move (v := slv p_b) rfl) ?_
      refine GA.take 5 rfl (by kernel_rfl) (by kernel_rfl) (by kernel_rfl) (fun _ _ _ h => False.elim h) trivial rfl (OV.move (v := .int .i64 x2) rfl) ?_
      obtain ⟨p15, ha16, hb17, hc18, hd19, h⟩ := h
      refine GA.take 6 rfl (by kernel_rfl) (by kernel_rfl) (by kernel_rfl) (fun _ _ _ h => False.elim h) trivial rfl (OV.indexAddr (s := p_b) rfl rfl rfl rfl ha16 hb17 hc18 hd19) ?_
      obtain ⟨x20, hr21, h⟩ := h
      refine GA.take 7 rfl (by kernel_rfl) (by kernel_rfl) (by kernel_rfl) (fun _ _ _ h => False.elim h) trivial rfl (OV.load (p := (p15.1, p15.2 + (x2 : Int).toNat * 1)) rfl rfl hr21) ?_
      refine GA.eff 8 rfl (by kernel_rfl) ?_
      refine GL.call h trivial rfl ok_ref02_SameRow (vs := [slv x13, slv x20]) rfl ?_
      rintro _ H24 ⟨r23, rfl, h⟩
      obtain ⟨hle22, h⟩ := h
      refine GA.back hle22 ?_
      refine GA.take 9 rfl (by kernel_rfl) (by kernel_rfl) (by kernel_rfl) (fun _ _ _ h => False.elim h) trivial rfl (OV.not rfl) ?_
      refine GA.done (by kernel_rfl) ?_
      refine GL.nil ?_
      refine GC.cond (b := !r23) rfl (fun hc25 => ?_) (fun hc25 => ?_)
      · replace h := And.left h hc25
        refine GC.seq ?_
        refine GC.region ?_
        refine GL.val trivial rfl (OV.assign (v := .bool false) rfl) ?_
        refine GL.nil ?_
        exact GC.ret (fun _ _ hf hs => post_tmp1 rfl rfl hf hs ⟨false, rfl, h⟩)
      · replace h := And.right h hc25
        refine GC.skip_to (fun _ _ h => h) ?_
        refine GC.region ?_
        refine GL.val trivial rfl (OV.move (v := .int .i64 x2) rfl) ?_
        refine GL.val trivial rfl (OV.ibin (v := .int .i64 (w .i64 (x2 + 1))) rfl rfl rfl) ?_
        refine GL.val trivial rfl (OV.assign (v := .int .i64 (w .i64 (x2 + 1))) rfl) ?_
        exact GL.jump (fun _ _ h => h) (w .i64 (x2 + 1)) h ⟨rfl, rfl, rfl, trivial⟩
    · replace h := And.right h hc5
      refine GC.exit_to (fun _ _ h => h) ?_
      refine GC.seq ?_
      refine GC.region ?_
      refine GL.val trivial rfl (OV.assign (v := .bool true) rfl) ?_
      refine GL.nil ?_
      exact GC.ret (fun _ _ hf hs => post_tmp1 rfl rfl hf hs ⟨true, rfl, h⟩)

def sh_law02_spoil (C : Ctx) (p_l : Sl) (K : Heap → Prop) (H : Heap) : Prop :=
  lp (α := Int) 0 H (fun x1 J2 H3 =>
 ift (decide ((x1 : Int) < (Sl.len p_l : Int)))
 (ixa p_l x1 fun p5 =>
 ldL H3 ((p5.1, p5.2 + (x1 : Int).toNat * 4).1, (p5.1, p5.2 + (x1 : Int).toNat * 4).2 + 3) fun x10 =>
 c_law02_spoil C x10 (fun H12 =>
 ixa p_l x1 fun p13 =>
 stT (p13.1, p13.2 + (x1 : Int).toNat * 4) (T_api_Value.c (⟨9, 0, [115, 112, 111, 105, 108, 116], Sl.nil⟩ : T_api_Value)) (fun H18 =>
 J2 (w .i64 (x1 + 1)) H18) H12) H3)
 (K H3))

theorem ad_law02_spoil (C : Ctx) (p_l : Sl) (K : Heap → Prop) (H : Heap) (h : sh_law02_spoil C p_l K H) : c_law02_spoil C p_l K H := by
  refine Spec.enter Tryz.func15 rfl Tryz.ntmps15 rfl ?_
  refine GC.sub [(0, slv p_l)] ⟨rfl, trivial⟩ ?_
  refine GC.seq ?_
  refine GC.region ?_
  refine GL.val trivial rfl (OV.assign (v := .int .i64 0) rfl) ?_
  refine GL.nil ?_
  refine GC.block ?_
  refine GC.loop (α := Int) h (fun x1 => [(2, .int .i64 x1), (0, slv p_l)]) ⟨rfl, rfl, trivial⟩ ?_
  intro x1 H3 J2 h
  refine GC.seq ?_
  refine GC.seq ?_
  refine GC.region ?_
  refine GL.val trivial rfl (OV.move (v := .int .i64 x1) rfl) ?_
  refine GL.val trivial rfl (OV.move (v := slv p_l) rfl) ?_
  refine GL.val trivial rfl (OV.lenSl (s := p_l) rfl rfl) ?_
  refine GL.val trivial rfl (OV.ibin (v := .bool (decide ((x1 : Int) < (Sl.len p_l : Int)))) rfl rfl rfl) ?_
  refine GL.nil ?_
  refine GC.cond (b := decide ((x1 : Int) < (Sl.len p_l : Int))) rfl (fun hc4 => ?_) (fun hc4 => ?_)
  · replace h := And.left h hc4
    refine GC.skip ?_
    refine GC.seq ?_
    refine GC.block ?_
    refine GC.seq ?_
    refine GC.region ?_
    refine GL.val trivial rfl (OV.move (v := slv p_l) rfl) ?_
    refine GL.val trivial rfl (OV.move (v := .int .i64 x1) rfl) ?_
    obtain ⟨p5, ha6, hb7, hc8, hd9, h⟩ := h
    refine GL.val trivial rfl (OV.indexAddr (s := p_l) rfl rfl rfl rfl ha6 hb7 hc8 hd9) ?_
    refine GL.val trivial rfl (OV.fieldAddr (p := (p5.1, p5.2 + (x1 : Int).toNat * 4)) rfl rfl) ?_
    obtain ⟨x10, hr11, h⟩ := h
    refine GL.val trivial rfl (OV.load (p := ((p5.1, p5.2 + (x1 : Int).toNat * 4).1, (p5.1, p5.2 + (x1 : Int).toNat * 4).2 + 3)) rfl rfl hr11) ?_
    refine GL.call h trivial rfl ok_law02_spoil (vs := [slv x10]) rfl ?_
    rintro _ H12 ⟨rfl, h⟩
    refine GL.nil ?_
    refine GC.region ?_
    refine GL.val trivial rfl (OV.move (v := slv p_l) rfl) ?_
    refine GL.val trivial rfl (OV.move (v := .int .i64 x1) rfl) ?_
    refine GL.val trivial rfl (OV.build (vs := [(0, .int .u8 9), (2, sv [115, 112, 111, 105, 108, 116])]) (v := .agg (T_api_Value.c (⟨9, 0, [115, 112, 111, 105, 108, 116], Sl.nil⟩ : T_api_Value)).toArray) rfl (fun _ => by kernel_rfl)) ?_
    obtain ⟨p13, ha14, hb15, hc16, hd17, h⟩ := h
    refine GL.val trivial rfl (OV.indexAddr (s := p_l) rfl rfl rfl rfl ha14 hb15 hc16 hd17) ?_
    refine GL.storeT (p := (p13.1, p13.2 + (x1 : Int).toNat * 4)) (vs := T_api_Value.c (⟨9, 0, [115, 112, 111, 105, 108, 116], Sl.nil⟩ : T_api_Value)) h trivial rfl rfl rfl rfl ?_
    intro H18 h
    refine GL.nil_to (fun _ _ h => h) ?_
    refine GC.region ?_
    refine GL.val trivial rfl (OV.move (v := .int .i64 x1) rfl) ?_
    refine GL.val trivial rfl (OV.ibin (v := .int .i64 (w .i64 (x1 + 1))) rfl rfl rfl) ?_
    refine GL.val trivial rfl (OV.assign (v := .int .i64 (w .i64 (x1 + 1))) rfl) ?_
    exact GL.jump (fun _ _ h => h) (w .i64 (x1 + 1)) h ⟨rfl, rfl, trivial⟩
  · replace h := And.right h hc4
    exact GC.exit_ends (fun _ _ hf hs => post_tmp0 rfl hf hs ⟨rfl, h⟩)

def sh_law02_weight (C : Ctx) (p_v : T_api_Value) (p_most : Int) (K : Int → Heap → Prop) (H : Heap) : Prop :=
  nw (T_api_Value.c p_v) (fun b1 H2 =>
 ldS H2 ((b1, 0).1, (b1, 0).2 + 2) fun x3 =>
 lp (α := Int × Int) ((w .i64 (1 + (w .i64 (Int.tdiv (List.length x3 : Int) 50)))), 0) H2 (fun x5 J6 H7 =>
 ldL H7 ((b1, 0).1, (b1, 0).2 + 3) fun x8 =>
 ift ((decide ((x5.2 : Int) < (Sl.len x8 : Int))) && (decide ((x5.1 : Int) < p_most)))
 (ldL H7 ((b1, 0).1, (b1, 0).2 + 3) fun x12 =>
 ixa x12 x5.2 fun p14 =>
 ldT H7 T_api_Value.c (p14.1, p14.2 + (x5.2 : Int).toNat * 4) fun x19 =>
 c_law02_weight C x19 (w .i64 (p_most - x5.1)) (fun r21 H22 =>
 J6 ((w .i64 (x5.1 + r21)), (w .i64 (x5.2 + 1))) H22) H7)
 (K x5.1 H7))) H

theorem ad_law02_weight (C : Ctx) (p_v : T_api_Value) (p_most : Int) (K : Int → Heap → Prop) (H : Heap) (h : sh_law02_weight C p_v p_most K H) : c_law02_weight C p_v p_most K H := by
  refine Spec.enter Tryz.func16 rfl Tryz.ntmps16 rfl ?_
  refine GC.sub [(0, .agg (T_api_Value.c p_v).toArray), (1, .int .i64 p_most)] ⟨rfl, rfl, trivial⟩ ?_
  refine GC.seq ?_
  refine GC.region ?_
  refine GL.box (v := .agg (T_api_Value.c p_v).toArray) (cs := T_api_Value.c p_v) h trivial rfl rfl rfl ?_
  intro b1 H2 h
  refine GL.val trivial rfl (OV.assign (v := .int .i64 0) rfl) ?_
  refine GL.nil ?_
  refine GC.seq ?_
  refine GC.region ?_
  refine GL.val trivial rfl (OV.fieldAddr (p := (b1, 0)) rfl rfl) ?_
  obtain ⟨x3, hr4, h⟩ := h
  refine GL.val trivial rfl (OV.load (p := ((b1, 0).1, (b1, 0).2 + 2)) rfl rfl hr4) ?_
  refine GL.val trivial rfl (OV.lenStr (s := x3) rfl rfl) ?_
  refine GL.val trivial rfl (OV.quo rfl rfl (by decide)) ?_
  refine GL.val trivial rfl (OV.ibin (v := .int .i64 (w .i64 (1 + (w .i64 (Int.tdiv (List.length x3 : Int) 50))))) rfl rfl rfl) ?_
  refine GL.val trivial rfl (OV.assign (v := .int .i64 (w .i64 (1 + (w .i64 (Int.tdiv (List.length x3 : Int) 50))))) rfl) ?_
  refine GL.nil ?_
  refine GC.seq ?_
  refine GC.seq ?_
  refine GC.region ?_
  refine GL.val trivial rfl (OV.assign (v := .int .i64 0) rfl) ?_
  refine GL.nil ?_
  refine GC.block ?_
  refine GC.loop (α := Int × Int) h (fun x5 => [(5, .int .i64 x5.1), (6, .int .i64 x5.2), (1, .int .i64 p_most), (2, pv (some (b1, 0)))]) ⟨rfl, rfl, rfl, rfl, trivial⟩ ?_
  intro x5 H7 J6 h
  refine GC.seq ?_
  refine GC.seq ?_
  refine GC.region ?_
  refine GL.val trivial rfl (OV.move (v := .int .i64 x5.2) rfl) ?_
  refine GL.val trivial rfl (OV.fieldAddr (p := (b1, 0)) rfl rfl) ?_
  obtain ⟨x8, hr9, h⟩ := h
  refine GL.val trivial rfl (OV.load (p := ((b1, 0).1, (b1, 0).2 + 3)) rfl rfl hr9) ?_
  refine GL.val trivial rfl (OV.lenSl (s := x8) rfl rfl) ?_
  refine GL.val trivial rfl (OV.ibin (v := .bool (decide ((x5.2 : Int) < (Sl.len x8 : Int)))) rfl rfl rfl) ?_
  refine GL.val trivial rfl (OV.move (v := .bool (decide ((x5.2 : Int) < (Sl.len x8 : Int)))) rfl) ?_
  refine GL.cut0 4 [(21, .bool ((decide ((x5.2 : Int) < (Sl.len x8 : Int))) && (decide ((x5.1 : Int) < p_most)))), (1, .int .i64 p_most), (2, pv (some (b1, 0))), (5, .int .i64 x5.1), (6, .int .i64 x5.2)] ?_ ?_
  · rcases Bool.eq_false_or_eq_true (decide ((x5.2 : Int) < (Sl.len x8 : Int))) with hc10 | hc10
    · skip
      refine GL.val ⟨_, _, rfl, rfl, hc10⟩ rfl (OV.move (v := .int .i64 x5.1) rfl) ?_
      refine GL.val ⟨_, _, rfl, rfl, hc10⟩ rfl (OV.move (v := .int .i64 p_most) rfl) ?_
      refine GL.val ⟨_, _, rfl, rfl, hc10⟩ rfl (OV.ibin (v := .bool (decide ((x5.1 : Int) < p_most))) rfl rfl rfl) ?_
      refine GL.val trivial rfl (OV.pickT (b := decide ((x5.2 : Int) < (Sl.len x8 : Int))) (v := .bool (decide ((x5.1 : Int) < p_most))) rfl hc10 rfl) ?_
      exact GL.jump0 (fun _ _ h => h) () rfl ⟨(by rw [hc10]; rfl), rfl, rfl, rfl, rfl, trivial⟩
    · skip
      refine GL.skip ⟨_, rfl, .inl ⟨_, rfl, hc10⟩⟩ rfl ?_
      refine GL.skip ⟨_, rfl, .inl ⟨_, rfl, hc10⟩⟩ rfl ?_
      refine GL.skip ⟨_, rfl, .inl ⟨_, rfl, hc10⟩⟩ rfl ?_
      refine GL.val trivial rfl (OV.pickF (b := decide ((x5.2 : Int) < (Sl.len x8 : Int))) (v := .bool false) rfl hc10 rfl) ?_
      exact GL.jump0 (fun _ _ h => h) () rfl ⟨(by rw [hc10]; rfl), rfl, rfl, rfl, rfl, trivial⟩
  refine GL.nil ?_
  refine GC.cond (b := (decide ((x5.2 : Int) < (Sl.len x8 : Int))) && (decide ((x5.1 : Int) < p_most))) rfl (fun hc11 => ?_) (fun hc11 => ?_)
  · replace h := And.left h hc11
    refine GC.skip ?_
    refine GC.seq ?_
    refine GC.block ?_
    refine GC.region ?_
    refine GL.val trivial rfl (OV.move (v := .int .i64 x5.1) rfl) ?_
    refine GL.val trivial rfl (OV.fieldAddr (p := (b1, 0)) rfl rfl) ?_
    obtain ⟨x12, hr13, h⟩ := h
    refine GL.val trivial rfl (OV.load (p := ((b1, 0).1, (b1, 0).2 + 3)) rfl rfl hr13) ?_
    refine GL.val trivial rfl (OV.move (v := .int .i64 x5.2) rfl) ?_
    obtain ⟨p14, ha15, hb16, hc17, hd18, h⟩ := h
    refine GL.val trivial rfl (OV.indexAddr (s := x12) rfl rfl rfl rfl ha15 hb16 hc17 hd18) ?_
    obtain ⟨x19, hr20, h⟩ := h
    refine GL.val trivial rfl (OV.loadT (p := (p14.1, p14.2 + (x5.2 : Int).toNat * 4)) (cs := T_api_Value.c x19) rfl rfl rfl hr20) ?_
    refine GL.val trivial rfl (OV.move (v := .int .i64 p_most) rfl) ?_
    refine GL.val trivial rfl (OV.move (v := .int .i64 x5.1) rfl) ?_
    refine GL.val trivial rfl (OV.ibin (v := .int .i64 (w .i64 (p_most - x5.1))) rfl rfl rfl) ?_
    refine GL.call h trivial rfl ok_law02_weight (vs := [.agg (T_api_Value.c x19).toArray, .int .i64 (w .i64 (p_most - x5.1))]) rfl ?_
    rintro _ H22 ⟨r21, rfl, h⟩
    refine GL.val trivial rfl (OV.ibin (v := .int .i64 (w .i64 (x5.1 + r21))) rfl rfl rfl) ?_
    refine GL.val trivial rfl (OV.assign (v := .int .i64 (w .i64 (x5.1 + r21))) rfl) ?_
    refine GL.nil_to (fun _ _ h => h) ?_
    refine GC.region ?_
    refine GL.val trivial rfl (OV.move (v := .int .i64 x5.2) rfl) ?_
    refine GL.val trivial rfl (OV.ibin (v := .int .i64 (w .i64 (x5.2 + 1))) rfl rfl rfl) ?_
    refine GL.val trivial rfl (OV.assign (v := .int .i64 (w .i64 (x5.2 + 1))) rfl) ?_
    exact GL.jump (fun _ _ h => h) ((w .i64 (x5.1 + r21)), (w .i64 (x5.2 + 1))) h ⟨rfl, rfl, rfl, rfl, trivial⟩
  · replace h := And.right h hc11
    refine GC.exit_to (fun _ _ h => h) ?_
    refine GC.seq ?_
    refine GC.region ?_
    refine GL.val trivial rfl (OV.move (v := .int .i64 x5.1) rfl) ?_
    refine GL.val trivial rfl (OV.assign (v := .int .i64 x5.1) rfl) ?_
    refine GL.nil ?_
    exact GC.ret (fun _ _ hf hs => post_tmp1 rfl rfl hf hs ⟨x5.1, rfl, h⟩)

def sh_value_Check (C : Ctx) (p_v : T_api_Value) (K : Int → Heap → Prop) (H : Heap) : Prop :=
  nw (T_api_Value.c p_v) (fun b1 H2 =>
 ldT H2 T_api_Value.c (b1, 0) fun x3 =>
 c_value_depth C x3 65 (fun r5 H6 =>
 ift (decide ((r5 : Int) > 64))
 (K 65 H6)
 (ldT H6 T_api_Value.c (b1, 0) fun x8 =>
 c_value_item_look C x8 (fun r10 r11 H12 =>
 ift (!r10)
 (K 4 H12)
 (ift (!r11)
 (K 40 H12)
 (K 0 H12))) H6)) H2) H

theorem ad_value_Check (C : Ctx) (p_v : T_api_Value) (K : Int → Heap → Prop) (H : Heap) (h : sh_value_Check C p_v K H) : c_value_Check C p_v K H := by
  refine Spec.enter Tryz.func17 rfl Tryz.ntmps17 rfl ?_
  refine GC.sub [(0, .agg (T_api_Value.c p_v).toArray)] ⟨rfl, trivial⟩ ?_
  refine GC.seq ?_
  refine GC.region ?_
  refine GL.box (v := .agg (T_api_Value.c p_v).toArray) (cs := T_api_Value.c p_v) h trivial rfl rfl rfl ?_
  intro b1 H2 h
  refine GL.val trivial rfl (OV.assign (v := .int .i64 0) rfl) ?_
  refine GL.nil ?_
  refine GC.seq ?_
  refine GC.seq ?_
  refine GC.region ?_
  obtain ⟨x3, hr4, h⟩ := h
  refine GL.val trivial rfl (OV.loadT (p := (b1, 0)) (cs := T_api_Value.c x3) rfl rfl rfl hr4) ?_
  refine GL.call h trivial rfl ok_value_depth (vs := [.agg (T_api_Value.c x3).toArray, .int .i64 65]) rfl ?_
  rintro _ H6 ⟨r5, rfl, h⟩
  refine GL.val trivial rfl (OV.ibin (v := .bool (decide ((r5 : Int) > 64))) rfl rfl rfl) ?_
  refine GL.nil ?_
  refine GC.cond (b := decide ((r5 : Int) > 64)) rfl (fun hc7 => ?_) (fun hc7 => ?_)
  · replace h := And.left h hc7
    refine GC.seq ?_
    refine GC.region ?_
    refine GL.val trivial rfl (OV.assign (v := .int .i64 65) rfl) ?_
    refine GL.nil ?_
    exact GC.ret (fun _ _ hf hs => post_tmp1 rfl rfl hf hs ⟨65, rfl, h⟩)
  · replace h := And.right h hc7
    refine GC.skip ?_
    refine GC.seq ?_
    refine GC.seq ?_
    refine GC.region ?_
    obtain ⟨x8, hr9, h⟩ := h
    refine GL.val trivial rfl (OV.loadT (p := (b1, 0)) (cs := T_api_Value.c x8) rfl rfl rfl hr9) ?_
    refine GL.call h trivial rfl ok_value_item_look (vs := [.agg (T_api_Value.c x8).toArray]) rfl ?_
    rintro _ H12 ⟨r10, r11, rfl, h⟩
    refine GL.val trivial rfl (OV.move (v := .tuple #[.bool r10, .bool r11]) rfl) ?_
    refine GL.val trivial rfl (OV.extract (v := .bool r10) rfl rfl) ?_
    refine GL.val trivial rfl (OV.extract (v := .bool r11) rfl rfl) ?_
    refine GL.val trivial rfl (OV.assign (v := .bool r10) rfl) ?_
    refine GL.val trivial rfl (OV.assign (v := .bool r11) rfl) ?_
    refine GL.nil ?_
    refine GC.block ?_
    refine GC.seq ?_
    refine GC.region ?_
    refine GL.val trivial rfl (OV.move (v := .bool r10) rfl) ?_
    refine GL.val trivial rfl (OV.not rfl) ?_
    refine GL.val trivial rfl (OV.assign (v := .bool (!r10)) rfl) ?_
    refine GL.nil ?_
    refine GC.cond (b := !r10) rfl (fun hc13 => ?_) (fun hc13 => ?_)
    · replace h := And.left h hc13
      refine GC.seq ?_
      refine GC.region ?_
      refine GL.val trivial rfl (OV.assign (v := .int .i64 4) rfl) ?_
      refine GL.nil ?_
      exact GC.ret (fun _ _ hf hs => post_tmp1 rfl rfl hf hs ⟨4, rfl, h⟩)
    · replace h := And.right h hc13
      refine GC.seq ?_
      refine GC.region ?_
      refine GL.val trivial rfl (OV.move (v := .bool r11) rfl) ?_
      refine GL.val trivial rfl (OV.not rfl) ?_
      refine GL.val trivial rfl (OV.assign (v := .bool (!r11)) rfl) ?_
      refine GL.nil ?_
      refine GC.cond (b := !r11) rfl (fun hc14 => ?_) (fun hc14 => ?_)
      · replace h := And.left h hc14
        refine GC.seq ?_
        refine GC.region ?_
        refine GL.val trivial rfl (OV.assign (v := .int .i64 40) rfl) ?_
        refine GL.nil ?_
        exact GC.ret (fun _ _ hf hs => post_tmp1 rfl rfl hf hs ⟨40, rfl, h⟩)
      · replace h := And.right h hc14
        refine GC.skip_to (fun _ _ h => h) ?_
        refine GC.seq ?_
        refine GC.region ?_
        refine GL.val trivial rfl (OV.assign (v := .int .i64 0) rfl) ?_
        refine GL.nil ?_
        exact GC.ret (fun _ _ hf hs => post_tmp1 rfl rfl hf hs ⟨0, rfl, h⟩)

def sh_value_Show (C : Ctx) (p_v : T_api_Value) (K : Str → Heap → Prop) (H : Heap) : Prop :=
  nw (T_api_Value.c p_v) (fun b1 H2 =>
 ldT H2 T_api_Value.c (b1, 0) fun x3 =>
 c_value_Check C x3 (fun r5 H6 =>
 ift ((r5 : Int) != 0)
 (K [] H6)
 (nwB 49 5 (fun b8 H9 =>
 nw ([.nilFunc]) (fun b10 H11 =>
 nw ([.nilFunc]) (fun b12 H13 =>
 st (b12, 0) (.func (.func 34) (List.toArray []) (List.toArray [pv (some (b8, 0)), pv (some (b10, 0))])) (fun H14 =>
 st (b10, 0) (.func (.func 37) (List.toArray []) (List.toArray [pv (some (b8, 0)), pv (some (b12, 0))])) (fun H15 =>
 ldV H15 (b10, 0) fun x16 =>
 ldT H15 T_api_Value.c (b1, 0) fun x18 =>
 callU Tryz.prog C x16 [.agg (T_api_Value.c x18).toArray] H15 (fun v H20 => v = .tuple #[] ∧
 c_strings_Builder_String C (some (b8, 0)) (fun r21 H22 =>
 K r21 H22) H20)) H14) H13) H11) H9) H6)) H2) H

theorem ad_value_Show (C : Ctx) (p_v : T_api_Value) (K : Str → Heap → Prop) (H : Heap) (h : sh_value_Show C p_v K H) : c_value_Show C p_v K H := by
  refine Spec.enter Tryz.func18 rfl Tryz.ntmps18 rfl ?_
  refine GC.sub [(0, .agg (T_api_Value.c p_v).toArray)] ⟨rfl, trivial⟩ ?_
  refine GC.seq ?_
  refine GC.region ?_
  refine GL.box (v := .agg (T_api_Value.c p_v).toArray) (cs := T_api_Value.c p_v) h trivial rfl rfl rfl ?_
  intro b1 H2 h
  refine GL.val trivial rfl (OV.assign (v := sv []) rfl) ?_
  refine GL.nil ?_
  refine GC.seq ?_
  refine GC.seq ?_
  refine GC.region ?_
  obtain ⟨x3, hr4, h⟩ := h
  refine GL.val trivial rfl (OV.loadT (p := (b1, 0)) (cs := T_api_Value.c x3) rfl rfl rfl hr4) ?_
  refine GL.call h trivial rfl ok_value_Check (vs := [.agg (T_api_Value.c x3).toArray]) rfl ?_
  rintro _ H6 ⟨r5, rfl, h⟩
  refine GL.val trivial rfl (OV.ibin (v := .bool ((r5 : Int) != 0)) rfl rfl rfl) ?_
  refine GL.nil ?_
  refine GC.cond (b := (r5 : Int) != 0) rfl (fun hc7 => ?_) (fun hc7 => ?_)
  · replace h := And.left h hc7
    refine GC.seq ?_
    refine GC.region ?_
    refine GL.val trivial rfl (OV.assign (v := sv []) rfl) ?_
    refine GL.nil ?_
    exact GC.ret (fun _ _ hf hs => post_tmp1 rfl rfl hf hs ⟨[], rfl, h⟩)
  · replace h := And.right h hc7
    refine GC.skip ?_
    refine GC.seq ?_
    refine GC.region ?_
    refine GL.allocB (T := 49) (e := 5) h trivial rfl rfl rfl ?_
    intro b8 H9 h
    refine GL.nil ?_
    refine GC.seq ?_
    refine GC.region ?_
    refine GL.alloc (cs := [.nilFunc]) h trivial rfl rfl rfl ?_
    intro b10 H11 h
    refine GL.nil ?_
    refine GC.seq ?_
    refine GC.region ?_
    refine GL.val trivial rfl (OV.makeFunc (vs := []) (us := [pv (some (b8, 0)), pv (some (b10, 0))]) rfl rfl) ?_
    refine GL.alloc (cs := [.nilFunc]) h trivial rfl rfl rfl ?_
    intro b12 H13 h
    refine GL.store (p := (b12, 0)) (v := .func (.func 34) (List.toArray []) (List.toArray [pv (some (b8, 0)), pv (some (b10, 0))])) h trivial rfl rfl rfl rfl ?_
    intro H14 h
    refine GL.nil ?_
    refine GC.seq ?_
    refine GC.region ?_
    refine GL.val trivial rfl (OV.makeFunc (vs := []) (us := [pv (some (b8, 0)), pv (some (b12, 0))]) rfl rfl) ?_
    refine GL.store (p := (b10, 0)) (v := .func (.func 37) (List.toArray []) (List.toArray [pv (some (b8, 0)), pv (some (b12, 0))])) h trivial rfl rfl rfl rfl ?_
    intro H15 h
    refine GL.nil ?_
    refine GC.seq ?_
    refine GC.region ?_
    obtain ⟨x16, hr17, h⟩ := h
    refine GL.val trivial rfl (OV.load (p := (b10, 0)) rfl rfl hr17) ?_
    obtain ⟨x18, hr19, h⟩ := h
    refine GL.val trivial rfl (OV.loadT (p := (b1, 0)) (cs := T_api_Value.c x18) rfl rfl rfl hr19) ?_
    refine GL.callU (xv := x16) (vs := [.agg (T_api_Value.c x18).toArray]) h trivial rfl rfl rfl ?_
    rintro _ H20 ⟨rfl, h⟩
    refine GL.nil ?_
    refine GC.seq ?_
    refine GC.region ?_
    refine GL.call h trivial rfl ok_strings_Builder_String (vs := [pv (some (b8, 0))]) rfl ?_
    rintro _ H22 ⟨r21, rfl, h⟩
    refine GL.val trivial rfl (OV.assign (v := sv r21) rfl) ?_
    refine GL.nil ?_
    exact GC.ret (fun _ _ hf hs => post_tmp1 rfl rfl hf hs ⟨r21, rfl, h⟩)

def sh_value_may (C : Ctx) (p_l : Sl) (K : Bool → Heap → Prop) (H : Heap) : Prop :=
  c_slices_ContainsFunc_api_Value_api_Value C p_l (.func (.func 43) (List.toArray []) (List.toArray []) : Value) (fun r1 H2 =>
 K (!r1) H2) H

theorem ad_value_may (C : Ctx) (p_l : Sl) (K : Bool → Heap → Prop) (H : Heap) (h : sh_value_may C p_l K H) : c_value_may C p_l K H := by
  refine Spec.enter Tryz.func19 rfl Tryz.ntmps19 rfl ?_
  refine GC.sub [(0, slv p_l)] ⟨rfl, trivial⟩ ?_
  refine GC.seq ?_
  refine GC.region ?_
  refine GL.val trivial rfl (OV.assign (v := .bool false) rfl) ?_
  refine GL.nil ?_
  refine GC.seq ?_
  refine GC.region ?_
  refine GL.val trivial rfl (OV.move (v := slv p_l) rfl) ?_
  refine GL.call h trivial rfl ok_slices_ContainsFunc_api_Value_api_Value (vs := [slv p_l, .func (.func 43) (List.toArray []) (List.toArray [])]) rfl ?_
  rintro _ H2 ⟨r1, rfl, h⟩
  refine GL.val trivial rfl (OV.not rfl) ?_
  refine GL.val trivial rfl (OV.assign (v := .bool (!r1)) rfl) ?_
  refine GL.nil ?_
  exact GC.ret (fun _ _ hf hs => post_tmp1 rfl rfl hf hs ⟨(!r1), rfl, h⟩)

def sh_value_last (C : Ctx) (p_a : Bool) (p_b : Bool) (K : Int → Heap → Prop) (H : Heap) : Prop :=
  ift (p_a == p_b)
 (K 0 H)
 (ift p_a
 (K (-1) H)
 (K 1 H))

theorem ad_value_last (C : Ctx) (p_a : Bool) (p_b : Bool) (K : Int → Heap → Prop) (H : Heap) (h : sh_value_last C p_a p_b K H) : c_value_last C p_a p_b K H := by
  refine Spec.enter Tryz.func20 rfl Tryz.ntmps20 rfl ?_
  refine GC.sub [(0, .bool p_a), (1, .bool p_b)] ⟨rfl, rfl, trivial⟩ ?_
  refine GC.seq ?_
  refine GC.region ?_
  refine GL.val trivial rfl (OV.assign (v := .int .i64 0) rfl) ?_
  refine GL.nil ?_
  refine GC.seq ?_
  refine GC.block ?_
  refine GC.seq ?_
  refine GC.region ?_
  refine GL.val trivial rfl (OV.move (v := .bool p_a) rfl) ?_
  refine GL.val trivial rfl (OV.move (v := .bool p_b) rfl) ?_
  refine GL.val trivial rfl (OV.eqlBool rfl rfl rfl) ?_
  refine GL.val trivial rfl (OV.assign (v := .bool (p_a == p_b)) rfl) ?_
  refine GL.nil ?_
  refine GC.cond (b := p_a == p_b) rfl (fun hc1 => ?_) (fun hc1 => ?_)
  · replace h := And.left h hc1
    refine GC.seq ?_
    refine GC.region ?_
    refine GL.val trivial rfl (OV.assign (v := .int .i64 0) rfl) ?_
    refine GL.nil ?_
    exact GC.ret (fun _ _ hf hs => post_tmp1 rfl rfl hf hs ⟨0, rfl, h⟩)
  · replace h := And.right h hc1
    refine GC.seq ?_
    refine GC.region ?_
    refine GL.val trivial rfl (OV.move (v := .bool p_a) rfl) ?_
    refine GL.val trivial rfl (OV.assign (v := .bool p_a) rfl) ?_
    refine GL.nil ?_
    refine GC.cond (b := p_a) rfl (fun hc2 => ?_) (fun hc2 => ?_)
    · replace h := And.left h hc2
      refine GC.seq ?_
      refine GC.region ?_
      refine GL.val trivial rfl (OV.assign (v := .int .i64 (-1)) rfl) ?_
      refine GL.nil ?_
      exact GC.ret (fun _ _ hf hs => post_tmp1 rfl rfl hf hs ⟨(-1), rfl, h⟩)
    · replace h := And.right h hc2
      refine GC.skip_to (fun _ _ h => h) ?_
      refine GC.seq ?_
      refine GC.region ?_
      refine GL.val trivial rfl (OV.assign (v := .int .i64 1) rfl) ?_
      refine GL.nil ?_
      exact GC.ret (fun _ _ hf hs => post_tmp1 rfl rfl hf hs ⟨1, rfl, h⟩)

def sh_value_rows (C : Ctx) (p_a : Sl) (p_b : Sl) (K : Int → Heap → Prop) (H : Heap) : Prop :=
  c_slices_CompareFunc_api_Value_api_Value_api_Value_api_Value C p_a p_b (.func (.func 45) (List.toArray []) (List.toArray []) : Value) (fun r1 H2 =>
 K r1 H2) H

theorem ad_value_rows (C : Ctx) (p_a : Sl) (p_b : Sl) (K : Int → Heap → Prop) (H : Heap) (h : sh_value_rows C p_a p_b K H) : c_value_rows C p_a p_b K H := by
  refine Spec.enter Tryz.func21 rfl Tryz.ntmps21 rfl ?_
  refine GC.sub [(0, slv p_a), (1, slv p_b)] ⟨rfl, rfl, trivial⟩ ?_
  refine GC.seq ?_
  refine GC.region ?_
  refine GL.val trivial rfl (OV.assign (v := .int .i64 0) rfl) ?_
  refine GL.nil ?_
  refine GC.seq ?_
  refine GC.region ?_
  refine GL.val trivial rfl (OV.move (v := slv p_a) rfl) ?_
  refine GL.val trivial rfl (OV.move (v := slv p_b) rfl) ?_
  refine GL.call h trivial rfl ok_slices_CompareFunc_api_Value_api_Value_api_Value_api_Value (vs := [slv p_a, slv p_b, .func (.func 45) (List.toArray []) (List.toArray [])]) rfl ?_
  rintro _ H2 ⟨r1, rfl, h⟩
  refine GL.val trivial rfl (OV.assign (v := .int .i64 r1) rfl) ?_
  refine GL.nil ?_
  exact GC.ret (fun _ _ hf hs => post_tmp1 rfl rfl hf hs ⟨r1, rfl, h⟩)

def sh_ref02_Row (C : Ctx) (p_l : Sl) (K : Bool → Heap → Prop) (H : Heap) : Prop :=
  lp (α := Int) 0 H (fun x1 J2 H3 =>
 ift (decide ((x1 : Int) < (Sl.len p_l : Int)))
 (ixa p_l x1 fun p5 =>
 ldT H3 T_api_Value.c (p5.1, p5.2 + (x1 : Int).toNat * 4) fun x10 =>
 c_ref02_Check C x10 (fun r12 H13 =>
 ift ((r12 : Int) != 0)
 (K false H13)
 (J2 (w .i64 (x1 + 1)) H13)) H3)
 (K true H3))

theorem ad_ref02_Row (C : Ctx) (p_l : Sl) (K : Bool → Heap → Prop) (H : Heap) (h : sh_ref02_Row C p_l K H) : c_ref02_Row C p_l K H := by
  refine Spec.enter Tryz.func22 rfl Tryz.ntmps22 rfl ?_
  refine GC.sub [(0, slv p_l)] ⟨rfl, trivial⟩ ?_
  refine GC.seq ?_
  refine GC.region ?_
  refine GL.val trivial rfl (OV.assign (v := .bool false) rfl) ?_
  refine GL.nil ?_
  refine GC.seq ?_
  refine GC.seq ?_
  refine GC.region ?_
  refine GL.val trivial rfl (OV.assign (v := .int .i64 0) rfl) ?_
  refine GL.nil ?_
  refine GC.block ?_
  refine GC.loop (α := Int) h (fun x1 => [(3, .int .i64 x1), (0, slv p_l)]) ⟨rfl, rfl, trivial⟩ ?_
  intro x1 H3 J2 h
  refine GC.seq ?_
  refine GC.seq ?_
  refine GC.region ?_
  refine GL.val trivial rfl (OV.move (v := .int .i64 x1) rfl) ?_
  refine GL.val trivial rfl (OV.move (v := slv p_l) rfl) ?_
  refine GL.val trivial rfl (OV.lenSl (s := p_l) rfl rfl) ?_
  refine GL.val trivial rfl (OV.ibin (v := .bool (decide ((x1 : Int) < (Sl.len p_l : Int)))) rfl rfl rfl) ?_
  refine GL.nil ?_
  refine GC.cond (b := decide ((x1 : Int) < (Sl.len p_l : Int))) rfl (fun hc4 => ?_) (fun hc4 => ?_)
  · replace h := And.left h hc4
    refine GC.skip ?_
    refine GC.seq ?_
    refine GC.block ?_
    refine GC.seq ?_
    refine GC.region ?_
    refine GL.val trivial rfl (OV.move (v := slv p_l) rfl) ?_
    refine GL.val trivial rfl (OV.move (v := .int .i64 x1) rfl) ?_
    obtain ⟨p5, ha6, hb7, hc8, hd9, h⟩ := h
    refine GL.val trivial rfl (OV.indexAddr (s := p_l) rfl rfl rfl rfl ha6 hb7 hc8 hd9) ?_
    obtain ⟨x10, hr11, h⟩ := h
    refine GL.val trivial rfl (OV.loadT (p := (p5.1, p5.2 + (x1 : Int).toNat * 4)) (cs := T_api_Value.c x10) rfl rfl rfl hr11) ?_
    refine GL.call h trivial rfl ok_ref02_Check (vs := [.agg (T_api_Value.c x10).toArray]) rfl ?_
    rintro _ H13 ⟨r12, rfl, h⟩
    refine GL.val trivial rfl (OV.ibin (v := .bool ((r12 : Int) != 0)) rfl rfl rfl) ?_
    refine GL.nil ?_
    refine GC.cond (b := (r12 : Int) != 0) rfl (fun hc14 => ?_) (fun hc14 => ?_)
    · replace h := And.left h hc14
      refine GC.seq ?_
      refine GC.region ?_
      refine GL.val trivial rfl (OV.assign (v := .bool false) rfl) ?_
      refine GL.nil ?_
      exact GC.ret (fun _ _ hf hs => post_tmp1 rfl rfl hf hs ⟨false, rfl, h⟩)
    · replace h := And.right h hc14
      refine GC.skip_to (fun _ _ h => h) ?_
      refine GC.region ?_
      refine GL.val trivial rfl (OV.move (v := .int .i64 x1) rfl) ?_
      refine GL.val trivial rfl (OV.ibin (v := .int .i64 (w .i64 (x1 + 1))) rfl rfl rfl) ?_
      refine GL.val trivial rfl (OV.assign (v := .int .i64 (w .i64 (x1 + 1))) rfl) ?_
      exact GL.jump (fun _ _ h => h) (w .i64 (x1 + 1)) h ⟨rfl, rfl, trivial⟩
  · replace h := And.right h hc4
    refine GC.exit_to (fun _ _ h => h) ?_
    refine GC.seq ?_
    refine GC.region ?_
    refine GL.val trivial rfl (OV.assign (v := .bool true) rfl) ?_
    refine GL.nil ?_
    exact GC.ret (fun _ _ hf hs => post_tmp1 rfl rfl hf hs ⟨true, rfl, h⟩)

def sh_ref02_last (C : Ctx) (p_a : Bool) (p_b : Bool) (K : Int → Heap → Prop) (H : Heap) : Prop :=
  ift (p_a == p_b)
 (K 0 H)
 (ift p_a
 (K (-1) H)
 (K 1 H))

theorem ad_ref02_last (C : Ctx) (p_a : Bool) (p_b : Bool) (K : Int → Heap → Prop) (H : Heap) (h : sh_ref02_last C p_a p_b K H) : c_ref02_last C p_a p_b K H := by
  refine Spec.enter Tryz.func23 rfl Tryz.ntmps23 rfl ?_
  refine GC.sub [(0, .bool p_a), (1, .bool p_b)] ⟨rfl, rfl, trivial⟩ ?_
  refine GC.seq ?_
  refine GC.region ?_
  refine GL.val trivial rfl (OV.assign (v := .int .i64 0) rfl) ?_
  refine GL.nil ?_
  refine GC.seq ?_
  refine GC.seq ?_
  refine GC.region ?_
  refine GL.val trivial rfl (OV.move (v := .bool p_a) rfl) ?_
  refine GL.val trivial rfl (OV.move (v := .bool p_b) rfl) ?_
  refine GL.val trivial rfl (OV.eqlBool rfl rfl rfl) ?_
  refine GL.nil ?_
  refine GC.cond (b := p_a == p_b) rfl (fun hc1 => ?_) (fun hc1 => ?_)
  · replace h := And.left h hc1
    refine GC.seq ?_
    refine GC.region ?_
    refine GL.val trivial rfl (OV.assign (v := .int .i64 0) rfl) ?_
    refine GL.nil ?_
    exact GC.ret (fun _ _ hf hs => post_tmp1 rfl rfl hf hs ⟨0, rfl, h⟩)
  · replace h := And.right h hc1
    refine GC.skip ?_
    refine GC.seq ?_
    refine GC.seq ?_
    refine GC.region ?_
    refine GL.val trivial rfl (OV.move (v := .bool p_a) rfl) ?_
    refine GL.nil ?_
    refine GC.cond (b := p_a) rfl (fun hc2 => ?_) (fun hc2 => ?_)
    · replace h := And.left h hc2
      refine GC.seq ?_
      refine GC.region ?_
      refine GL.val trivial rfl (OV.assign (v := .int .i64 (-1)) rfl) ?_
      refine GL.nil ?_
      exact GC.ret (fun _ _ hf hs => post_tmp1 rfl rfl hf hs ⟨(-1), rfl, h⟩)
    · replace h := And.right h hc2
      refine GC.skip ?_
      refine GC.seq ?_
      refine GC.region ?_
      refine GL.val trivial rfl (OV.assign (v := .int .i64 1) rfl) ?_
      refine GL.nil ?_
      exact GC.ret (fun _ _ hf hs => post_tmp1 rfl rfl hf hs ⟨1, rfl, h⟩)

def sh_ref02_rows (C : Ctx) (p_a : Sl) (p_b : Sl) (K : Int → Heap → Prop) (H : Heap) : Prop :=
  lp (α := Int) 0 H (fun x1 J2 H3 =>
 ift ((decide ((x1 : Int) < (Sl.len p_a : Int))) && (decide ((x1 : Int) < (Sl.len p_b : Int))))
 (dr H3 fun Hs6 =>
 ixa p_a x1 fun p8 =>
 ldT Hs6 T_api_Value.c (p8.1, p8.2 + (x1 : Int).toNat * 4) fun x13 =>
 ixa p_b x1 fun p15 =>
 ldT Hs6 T_api_Value.c (p15.1, p15.2 + (x1 : Int).toNat * 4) fun x20 =>
 c_ref02_cmp C x13 x20 (fun r23 H24 =>
 Heap.le Hs6 H24 ∧
 ift ((r23 : Int) != 0)
 (K r23 H24)
 (J2 (w .i64 (x1 + 1)) H24)) H3)
 (c_ref02_ints C (Sl.len p_a : Int) (Sl.len p_b : Int) (fun r26 H27 =>
 K r26 H27) H3))

theorem ad_ref02_rows (C : Ctx) (p_a : Sl) (p_b : Sl) (K : Int → Heap → Prop) (H : Heap) (h : sh_ref02_rows C p_a p_b K H) : c_ref02_rows C p_a p_b K H := by
  refine Spec.enter Tryz.func24 rfl Tryz.ntmps24 rfl ?_
  refine GC.sub [(0, slv p_a), (1, slv p_b)] ⟨rfl, rfl, trivial⟩ ?_
  refine GC.seq ?_
  refine GC.region ?_
  refine GL.val trivial rfl (OV.assign (v := .int .i64 0) rfl) ?_
  refine GL.nil ?_
  refine GC.seq ?_
  refine GC.seq ?_
  refine GC.region ?_
  refine GL.val trivial rfl (OV.assign (v := .int .i64 0) rfl) ?_
  refine GL.nil ?_
  refine GC.block ?_
  refine GC.loop (α := Int) h (fun x1 => [(5, .int .i64 x1), (0, slv p_a), (1, slv p_b)]) ⟨rfl, rfl, rfl, trivial⟩ ?_
  intro x1 H3 J2 h
  refine GC.seq ?_
  refine GC.seq ?_
  refine GC.region ?_
  refine GL.val trivial rfl (OV.move (v := .int .i64 x1) rfl) ?_
  refine GL.val trivial rfl (OV.move (v := slv p_a) rfl) ?_
  refine GL.val trivial rfl (OV.lenSl (s := p_a) rfl rfl) ?_
  refine GL.val trivial rfl (OV.ibin (v := .bool (decide ((x1 : Int) < (Sl.len p_a : Int)))) rfl rfl rfl) ?_
  refine GL.val trivial rfl (OV.move (v := .bool (decide ((x1 : Int) < (Sl.len p_a : Int)))) rfl) ?_
  refine GL.cut0 5 [(16, .bool ((decide ((x1 : Int) < (Sl.len p_a : Int))) && (decide ((x1 : Int) < (Sl.len p_b : Int))))), (0, slv p_a), (1, slv p_b), (5, .int .i64 x1)] ?_ ?_
  · rcases Bool.eq_false_or_eq_true (decide ((x1 : Int) < (Sl.len p_a : Int))) with hc4 | hc4
    · skip
      refine GL.val ⟨_, _, rfl, rfl, hc4⟩ rfl (OV.move (v := .int .i64 x1) rfl) ?_
      refine GL.val ⟨_, _, rfl, rfl, hc4⟩ rfl (OV.move (v := slv p_b) rfl) ?_
      refine GL.val ⟨_, _, rfl, rfl, hc4⟩ rfl (OV.lenSl (s := p_b) rfl rfl) ?_
      refine GL.val ⟨_, _, rfl, rfl, hc4⟩ rfl (OV.ibin (v := .bool (decide ((x1 : Int) < (Sl.len p_b : Int)))) rfl rfl rfl) ?_
      refine GL.val trivial rfl (OV.pickT (b := decide ((x1 : Int) < (Sl.len p_a : Int))) (v := .bool (decide ((x1 : Int) < (Sl.len p_b : Int)))) rfl hc4 rfl) ?_
      exact GL.jump0 (fun _ _ h => h) () rfl ⟨(by rw [hc4]; rfl), rfl, rfl, rfl, trivial⟩
    · skip
      refine GL.skip ⟨_, rfl, .inl ⟨_, rfl, hc4⟩⟩ rfl ?_
      refine GL.skip ⟨_, rfl, .inl ⟨_, rfl, hc4⟩⟩ rfl ?_
      refine GL.skip ⟨_, rfl, .inl ⟨_, rfl, hc4⟩⟩ rfl ?_
      refine GL.skip ⟨_, rfl, .inl ⟨_, rfl, hc4⟩⟩ rfl ?_
      refine GL.val trivial rfl (OV.pickF (b := decide ((x1 : Int) < (Sl.len p_a : Int))) (v := .bool false) rfl hc4 rfl) ?_
      exact GL.jump0 (fun _ _ h => h) () rfl ⟨(by rw [hc4]; rfl), rfl, rfl, rfl, trivial⟩
  refine GL.nil ?_
  refine GC.cond (b := (decide ((x1 : Int) < (Sl.len p_a : Int))) && (decide ((x1 : Int) < (Sl.len p_b : Int)))) rfl (fun hc5 => ?_) (fun hc5 => ?_)
  · replace h := And.left h hc5
    refine GC.skip ?_
    refine GC.seq ?_
    refine GC.block ?_
    refine GC.seq ?_
    obtain ⟨Hs6, hle7, h⟩ := h
    refine GC.any (Hs := Hs6) (by kernel_rfl) hle7 ?_
    refine GA.take 0 rfl (by kernel_rfl) (by kernel_rfl) (by kernel_rfl) (fun _ _ _ h => False.elim h) trivial rfl (OV.move (v := slv p_a) rfl) ?_
    refine GA.take 1 rfl (by kernel_rfl) (by kernel_rfl) (by kernel_rfl) (fun _ _ _ h => False.elim h) trivial rfl (OV.move (v := .int .i64 x1) rfl) ?_
    obtain ⟨p8, ha9, hb10, hc11, hd12, h⟩ := h
    refine GA.take 2 rfl (by kernel_rfl) (by kernel_rfl) (by kernel_rfl) (fun _ _ _ h => False.elim h) trivial rfl (OV.indexAddr (s := p_a) rfl rfl rfl rfl ha9 hb10 hc11 hd12) ?_
    obtain ⟨x13, hr14, h⟩ := h
    refine GA.take 3 rfl (by kernel_rfl) (by kernel_rfl) (by kernel_rfl) (fun _ _ _ h => False.elim h) trivial rfl (OV.loadT (p := (p8.1, p8.2 + (x1 : Int).toNat * 4)) (cs := T_api_Value.c x13) rfl rfl rfl hr14) ?_
    refine GA.take 4 rfl (by kernel_rfl) (by kernel_rfl) (by kernel_rfl) (fun _ _ _ h => False.elim h) trivial rfl (OV.move (v := slv p_b) rfl) ?_
    refine GA.take 5 rfl (by kernel_rfl) (by kernel_rfl) (by kernel_rfl) (fun _ _ _ h => False.elim h) trivial rfl (OV.move (v := .int .i64 x1) rfl) ?_
    obtain ⟨p15, ha16, hb17, hc18, hd19, h⟩ := h
    refine GA.take 6 rfl (by kernel_rfl) (by kernel_rfl) (by kernel_rfl) (fun _ _ _ h => False.elim h) trivial rfl (OV.indexAddr (s := p_b) rfl rfl rfl rfl ha16 hb17 hc18 hd19) ?_
    obtain ⟨x20, hr21, h⟩ := h
    refine GA.take 7 rfl (by kernel_rfl) (by kernel_rfl) (by kernel_rfl) (fun _ _ _ h => False.elim h) trivial rfl (OV.loadT (p := (p15.1, p15.2 + (x1 : Int).toNat * 4)) (cs := T_api_Value.c x20) rfl rfl rfl hr21) ?_
    refine GA.eff 8 rfl (by kernel_rfl) ?_
    refine GL.call h trivial rfl ok_ref02_cmp (vs := [.agg (T_api_Value.c x13).toArray, .agg (T_api_Value.c x20).toArray]) rfl ?_
    rintro _ H24 ⟨r23, rfl, h⟩
    obtain ⟨hle22, h⟩ := h
    refine GA.back hle22 ?_
    refine GA.take 9 rfl (by kernel_rfl) (by kernel_rfl) (by kernel_rfl) (fun _ _ _ h => False.elim h) trivial rfl (OV.assign (v := .int .i64 r23) rfl) ?_
    refine GA.done (by kernel_rfl) ?_
    refine GL.nil ?_
    refine GC.seq ?_
    refine GC.region ?_
    refine GL.val trivial rfl (OV.move (v := .int .i64 r23) rfl) ?_
    refine GL.val trivial rfl (OV.ibin (v := .bool ((r23 : Int) != 0)) rfl rfl rfl) ?_
    refine GL.nil ?_
    refine GC.cond (b := (r23 : Int) != 0) rfl (fun hc25 => ?_) (fun hc25 => ?_)
    · replace h := And.left h hc25
      refine GC.seq ?_
      refine GC.region ?_
      refine GL.val trivial rfl (OV.move (v := .int .i64 r23) rfl) ?_
      refine GL.val trivial rfl (OV.assign (v := .int .i64 r23) rfl) ?_
      refine GL.nil ?_
      exact GC.ret (fun _ _ hf hs => post_tmp1 rfl rfl hf hs ⟨r23, rfl, h⟩)
    · replace h := And.right h hc25
      refine GC.skip_to (fun _ _ h => h) ?_
      refine GC.region ?_
      refine GL.val trivial rfl (OV.move (v := .int .i64 x1) rfl) ?_
      refine GL.val trivial rfl (OV.ibin (v := .int .i64 (w .i64 (x1 + 1))) rfl rfl rfl) ?_
      refine GL.val trivial rfl (OV.assign (v := .int .i64 (w .i64 (x1 + 1))) rfl) ?_
      exact GL.jump (fun _ _ h => h) (w .i64 (x1 + 1)) h ⟨rfl, rfl, rfl, trivial⟩
  · replace h := And.right h hc5
    refine GC.exit_to (fun _ _ h => h) ?_
    refine GC.seq ?_
    refine GC.region ?_
    refine GL.val trivial rfl (OV.move (v := slv p_a) rfl) ?_
    refine GL.val trivial rfl (OV.lenSl (s := p_a) rfl rfl) ?_
    refine GL.val trivial rfl (OV.move (v := slv p_b) rfl) ?_
    refine GL.val trivial rfl (OV.lenSl (s := p_b) rfl rfl) ?_
    refine GL.call h trivial rfl ok_ref02_ints (vs := [.int .i64 (Sl.len p_a : Int), .int .i64 (Sl.len p_b : Int)]) rfl ?_
    rintro _ H27 ⟨r26, rfl, h⟩
    refine GL.val trivial rfl (OV.assign (v := .int .i64 r26) rfl) ?_
    refine GL.nil ?_
    exact GC.ret (fun _ _ hf hs => post_tmp1 rfl rfl hf hs ⟨r26, rfl, h⟩)

def sh_ref02_Check (C : Ctx) (p_v : T_api_Value) (K : Int → Heap → Prop) (H : Heap) : Prop :=
  nw (T_api_Value.c p_v) (fun b1 H2 =>
 ldT H2 T_api_Value.c (b1, 0) fun x3 =>
 c_ref02_Depth C x3 (fun r5 H6 =>
 ift (decide ((r5 : Int) > 64))
 (K 65 H6)
 (ldT H6 T_api_Value.c (b1, 0) fun x8 =>
 c_ref02_form C x8 (fun r10 H11 =>
 ift (!r10)
 (K 4 H11)
 (ldT H11 T_api_Value.c (b1, 0) fun x13 =>
 c_ref02_fits C x13 (fun r15 H16 =>
 ift (!r15)
 (K 40 H16)
 (K 0 H16)) H11)) H6)) H2) H

theorem ad_ref02_Check (C : Ctx) (p_v : T_api_Value) (K : Int → Heap → Prop) (H : Heap) (h : sh_ref02_Check C p_v K H) : c_ref02_Check C p_v K H := by
  refine Spec.enter Tryz.func25 rfl Tryz.ntmps25 rfl ?_
  refine GC.sub [(0, .agg (T_api_Value.c p_v).toArray)] ⟨rfl, trivial⟩ ?_
  refine GC.seq ?_
  refine GC.region ?_
  refine GL.box (v := .agg (T_api_Value.c p_v).toArray) (cs := T_api_Value.c p_v) h trivial rfl rfl rfl ?_
  intro b1 H2 h
  refine GL.val trivial rfl (OV.assign (v := .int .i64 0) rfl) ?_
  refine GL.nil ?_
  refine GC.seq ?_
  refine GC.seq ?_
  refine GC.region ?_
  obtain ⟨x3, hr4, h⟩ := h
  refine GL.val trivial rfl (OV.loadT (p := (b1, 0)) (cs := T_api_Value.c x3) rfl rfl rfl hr4) ?_
  refine GL.call h trivial rfl ok_ref02_Depth (vs := [.agg (T_api_Value.c x3).toArray]) rfl ?_
  rintro _ H6 ⟨r5, rfl, h⟩
  refine GL.val trivial rfl (OV.ibin (v := .bool (decide ((r5 : Int) > 64))) rfl rfl rfl) ?_
  refine GL.nil ?_
  refine GC.cond (b := decide ((r5 : Int) > 64)) rfl (fun hc7 => ?_) (fun hc7 => ?_)
  · replace h := And.left h hc7
    refine GC.seq ?_
    refine GC.region ?_
    refine GL.val trivial rfl (OV.assign (v := .int .i64 65) rfl) ?_
    refine GL.nil ?_
    exact GC.ret (fun _ _ hf hs => post_tmp1 rfl rfl hf hs ⟨65, rfl, h⟩)
  · replace h := And.right h hc7
    refine GC.skip ?_
    refine GC.seq ?_
    refine GC.seq ?_
    refine GC.region ?_
    obtain ⟨x8, hr9, h⟩ := h
    refine GL.val trivial rfl (OV.loadT (p := (b1, 0)) (cs := T_api_Value.c x8) rfl rfl rfl hr9) ?_
    refine GL.call h trivial rfl ok_ref02_form (vs := [.agg (T_api_Value.c x8).toArray]) rfl ?_
    rintro _ H11 ⟨r10, rfl, h⟩
    refine GL.val trivial rfl (OV.not rfl) ?_
    refine GL.nil ?_
    refine GC.cond (b := !r10) rfl (fun hc12 => ?_) (fun hc12 => ?_)
    · replace h := And.left h hc12
      refine GC.seq ?_
      refine GC.region ?_
      refine GL.val trivial rfl (OV.assign (v := .int .i64 4) rfl) ?_
      refine GL.nil ?_
      exact GC.ret (fun _ _ hf hs => post_tmp1 rfl rfl hf hs ⟨4, rfl, h⟩)
    · replace h := And.right h hc12
      refine GC.skip ?_
      refine GC.seq ?_
      refine GC.seq ?_
      refine GC.region ?_
      obtain ⟨x13, hr14, h⟩ := h
      refine GL.val trivial rfl (OV.loadT (p := (b1, 0)) (cs := T_api_Value.c x13) rfl rfl rfl hr14) ?_
      refine GL.call h trivial rfl ok_ref02_fits (vs := [.agg (T_api_Value.c x13).toArray]) rfl ?_
      rintro _ H16 ⟨r15, rfl, h⟩
      refine GL.val trivial rfl (OV.not rfl) ?_
      refine GL.nil ?_
      refine GC.cond (b := !r15) rfl (fun hc17 => ?_) (fun hc17 => ?_)
      · replace h := And.left h hc17
        refine GC.seq ?_
        refine GC.region ?_
        refine GL.val trivial rfl (OV.assign (v := .int .i64 40) rfl) ?_
        refine GL.nil ?_
        exact GC.ret (fun _ _ hf hs => post_tmp1 rfl rfl hf hs ⟨40, rfl, h⟩)
      · replace h := And.right h hc17
        refine GC.skip ?_
        refine GC.seq ?_
        refine GC.region ?_
        refine GL.val trivial rfl (OV.assign (v := .int .i64 0) rfl) ?_
        refine GL.nil ?_
        exact GC.ret (fun _ _ hf hs => post_tmp1 rfl rfl hf hs ⟨0, rfl, h⟩)

def sh_ref02_cmp (C : Ctx) (p_a : T_api_Value) (p_b : T_api_Value) (K : Int → Heap → Prop) (H : Heap) : Prop :=
  nw (T_api_Value.c p_a) (fun b1 H2 =>
 nw (T_api_Value.c p_b) (fun b3 H4 =>
 ldI H4 .u8 ((b1, 0).1, (b1, 0).2 + 0) fun x5 =>
 ldI H4 .u8 ((b3, 0).1, (b3, 0).2 + 0) fun x7 =>
 ift ((x5 : Int) != x7)
 (ldI H4 .u8 ((b1, 0).1, (b1, 0).2 + 0) fun x10 =>
 ldI H4 .u8 ((b3, 0).1, (b3, 0).2 + 0) fun x12 =>
 c_ref02_ints C (w .i64 x10) (w .i64 x12) (fun r14 H15 =>
 K r14 H15) H4)
 (ldI H4 .u8 ((b1, 0).1, (b1, 0).2 + 0) fun x16 =>
 ift ((x16 : Int) == 3)
 (ldS H4 ((b1, 0).1, (b1, 0).2 + 2) fun x19 =>
 ldS H4 ((b3, 0).1, (b3, 0).2 + 2) fun x21 =>
 c_ref02_Bigs C x19 x21 (fun r23 H24 =>
 K r23 H24) H4)
 (ift ((x16 : Int) == 4)
 (ldS H4 ((b1, 0).1, (b1, 0).2 + 2) fun x26 =>
 ldS H4 ((b3, 0).1, (b3, 0).2 + 2) fun x28 =>
 c_ref02_texts C x26 x28 (fun r30 H31 =>
 K r30 H31) H4)
 (ift ((x16 : Int) == 5)
 (ldL H4 ((b1, 0).1, (b1, 0).2 + 3) fun x33 =>
 ldL H4 ((b3, 0).1, (b3, 0).2 + 3) fun x35 =>
 c_ref02_rows C x33 x35 (fun r37 H38 =>
 K r37 H38) H4)
 (ift ((x16 : Int) == 6)
 (ldS H4 ((b1, 0).1, (b1, 0).2 + 2) fun x40 =>
 ldS H4 ((b3, 0).1, (b3, 0).2 + 2) fun x42 =>
 c_ref02_texts C x40 x42 (fun r44 H45 =>
 ift ((r44 : Int) != 0)
 (K r44 H45)
 (ldL H45 ((b1, 0).1, (b1, 0).2 + 3) fun x47 =>
 ldL H45 ((b3, 0).1, (b3, 0).2 + 3) fun x49 =>
 c_ref02_rows C x47 x49 (fun r51 H52 =>
 K r51 H52) H45)) H4)
 (ldI H4 .i64 ((b1, 0).1, (b1, 0).2 + 1) fun x53 =>
 ldI H4 .i64 ((b3, 0).1, (b3, 0).2 + 1) fun x55 =>
 c_ref02_ints C x53 x55 (fun r57 H58 =>
 K r57 H58) H4)))))) H2) H

theorem ad_ref02_cmp (C : Ctx) (p_a : T_api_Value) (p_b : T_api_Value) (K : Int → Heap → Prop) (H : Heap) (h : sh_ref02_cmp C p_a p_b K H) : c_ref02_cmp C p_a p_b K H := by
  refine Spec.enter Tryz.func26 rfl Tryz.ntmps26 rfl ?_
  refine GC.sub [(0, .agg (T_api_Value.c p_a).toArray), (1, .agg (T_api_Value.c p_b).toArray)] ⟨rfl, rfl, trivial⟩ ?_
  refine GC.seq ?_
  refine GC.region ?_
  refine GL.box (v := .agg (T_api_Value.c p_a).toArray) (cs := T_api_Value.c p_a) h trivial rfl rfl rfl ?_
  intro b1 H2 h
  refine GL.box (v := .agg (T_api_Value.c p_b).toArray) (cs := T_api_Value.c p_b) h trivial rfl rfl rfl ?_
  intro b3 H4 h
  refine GL.val trivial rfl (OV.assign (v := .int .i64 0) rfl) ?_
  refine GL.nil ?_
  refine GC.seq ?_
  refine GC.seq ?_
  refine GC.region ?_
  refine GL.val trivial rfl (OV.fieldAddr (p := (b1, 0)) rfl rfl) ?_
  obtain ⟨x5, hr6, h⟩ := h
  refine GL.val trivial rfl (OV.load (p := ((b1, 0).1, (b1, 0).2 + 0)) rfl rfl hr6) ?_
  refine GL.val trivial rfl (OV.fieldAddr (p := (b3, 0)) rfl rfl) ?_
  obtain ⟨x7, hr8, h⟩ := h
  refine GL.val trivial rfl (OV.load (p := ((b3, 0).1, (b3, 0).2 + 0)) rfl rfl hr8) ?_
  refine GL.val trivial rfl (OV.ibin (v := .bool ((x5 : Int) != x7)) rfl rfl rfl) ?_
  refine GL.nil ?_
  refine GC.cond (b := (x5 : Int) != x7) rfl (fun hc9 => ?_) (fun hc9 => ?_)
  · replace h := And.left h hc9
    refine GC.seq ?_
    refine GC.region ?_
    refine GL.val trivial rfl (OV.fieldAddr (p := (b1, 0)) rfl rfl) ?_
    obtain ⟨x10, hr11, h⟩ := h
    refine GL.val trivial rfl (OV.load (p := ((b1, 0).1, (b1, 0).2 + 0)) rfl rfl hr11) ?_
    refine GL.val trivial rfl (OV.convInt rfl rfl rfl) ?_
    refine GL.val trivial rfl (OV.fieldAddr (p := (b3, 0)) rfl rfl) ?_
    obtain ⟨x12, hr13, h⟩ := h
    refine GL.val trivial rfl (OV.load (p := ((b3, 0).1, (b3, 0).2 + 0)) rfl rfl hr13) ?_
    refine GL.val trivial rfl (OV.convInt rfl rfl rfl) ?_
    refine GL.call h trivial rfl ok_ref02_ints (vs := [.int .i64 (w .i64 x10), .int .i64 (w .i64 x12)]) rfl ?_
    rintro _ H15 ⟨r14, rfl, h⟩
    refine GL.val trivial rfl (OV.assign (v := .int .i64 r14) rfl) ?_
    refine GL.nil ?_
    exact GC.ret (fun _ _ hf hs => post_tmp1 rfl rfl hf hs ⟨r14, rfl, h⟩)
  · replace h := And.right h hc9
    refine GC.skip ?_
    refine GC.seq ?_
    refine GC.seq ?_
    refine GC.region ?_
    refine GL.val trivial rfl (OV.fieldAddr (p := (b1, 0)) rfl rfl) ?_
    obtain ⟨x16, hr17, h⟩ := h
    refine GL.val trivial rfl (OV.load (p := ((b1, 0).1, (b1, 0).2 + 0)) rfl rfl hr17) ?_
    refine GL.nil ?_
    refine GC.block ?_
    refine GC.seq ?_
    refine GC.region ?_
    refine GL.val trivial rfl (OV.ibin (v := .bool ((x16 : Int) == 3)) rfl rfl rfl) ?_
    refine GL.val trivial rfl (OV.assign (v := .bool ((x16 : Int) == 3)) rfl) ?_
    refine GL.nil ?_
    refine GC.cond (b := (x16 : Int) == 3) rfl (fun hc18 => ?_) (fun hc18 => ?_)
    · replace h := And.left h hc18
      refine GC.seq ?_
      refine GC.region ?_
      refine GL.val trivial rfl (OV.fieldAddr (p := (b1, 0)) rfl rfl) ?_
      obtain ⟨x19, hr20, h⟩ := h
      refine GL.val trivial rfl (OV.load (p := ((b1, 0).1, (b1, 0).2 + 2)) rfl rfl hr20) ?_
      refine GL.val trivial rfl (OV.fieldAddr (p := (b3, 0)) rfl rfl) ?_
      obtain ⟨x21, hr22, h⟩ := h
      refine GL.val trivial rfl (OV.load (p := ((b3, 0).1, (b3, 0).2 + 2)) rfl rfl hr22) ?_
      refine GL.call h trivial rfl ok_ref02_Bigs (vs := [sv x19, sv x21]) rfl ?_
      rintro _ H24 ⟨r23, rfl, h⟩
      refine GL.val trivial rfl (OV.assign (v := .int .i64 r23) rfl) ?_
      refine GL.nil ?_
      exact GC.ret (fun _ _ hf hs => post_tmp1 rfl rfl hf hs ⟨r23, rfl, h⟩)
    · replace h := And.right h hc18
      refine GC.seq ?_
      refine GC.region ?_
      refine GL.val trivial rfl (OV.ibin (v := .bool ((x16 : Int) == 4)) rfl rfl rfl) ?_
      refine GL.val trivial rfl (OV.assign (v := .bool ((x16 : Int) == 4)) rfl) ?_
      refine GL.nil ?_
      refine GC.cond (b := (x16 : Int) == 4) rfl (fun hc25 => ?_) (fun hc25 => ?_)
      · replace h := And.left h hc25
        refine GC.seq ?_
        refine GC.region ?_
        refine GL.val trivial rfl (OV.fieldAddr (p := (b1, 0)) rfl rfl) ?_
        obtain ⟨x26, hr27, h⟩ := h
        refine GL.val trivial rfl (OV.load (p := ((b1, 0).1, (b1, 0).2 + 2)) rfl rfl hr27) ?_
        refine GL.val trivial rfl (OV.fieldAddr (p := (b3, 0)) rfl rfl) ?_
        obtain ⟨x28, hr29, h⟩ := h
        refine GL.val trivial rfl (OV.load (p := ((b3, 0).1, (b3, 0).2 + 2)) rfl rfl hr29) ?_
        refine GL.call h trivial rfl ok_ref02_texts (vs := [sv x26, sv x28]) rfl ?_
        rintro _ H31 ⟨r30, rfl, h⟩
        refine GL.val trivial rfl (OV.assign (v := .int .i64 r30) rfl) ?_
        refine GL.nil ?_
        exact GC.ret (fun _ _ hf hs => post_tmp1 rfl rfl hf hs ⟨r30, rfl, h⟩)
      · replace h := And.right h hc25
        refine GC.seq ?_
        refine GC.region ?_
        refine GL.val trivial rfl (OV.ibin (v := .bool ((x16 : Int) == 5)) rfl rfl rfl) ?_
        refine GL.val trivial rfl (OV.assign (v := .bool ((x16 : Int) == 5)) rfl) ?_
        refine GL.nil ?_
        refine GC.cond (b := (x16 : Int) == 5) rfl (fun hc32 => ?_) (fun hc32 => ?_)
        · replace h := And.left h hc32
          refine GC.seq ?_
          refine GC.region ?_
          refine GL.val trivial rfl (OV.fieldAddr (p := (b1, 0)) rfl rfl) ?_
          obtain ⟨x33, hr34, h⟩ := h
          refine GL.val trivial rfl (OV.load (p := ((b1, 0).1, (b1, 0).2 + 3)) rfl rfl hr34) ?_
          refine GL.val trivial rfl (OV.fieldAddr (p := (b3, 0)) rfl rfl) ?_
          obtain ⟨x35, hr36, h⟩ := h
          refine GL.val trivial rfl (OV.load (p := ((b3, 0).1, (b3, 0).2 + 3)) rfl rfl hr36) ?_
          refine GL.call h trivial rfl ok_ref02_rows (vs := [slv x33, slv x35]) rfl ?_
          rintro _ H38 ⟨r37, rfl, h⟩
          refine GL.val trivial rfl (OV.assign (v := .int .i64 r37) rfl) ?_
          refine GL.nil ?_
          exact GC.ret (fun _ _ hf hs => post_tmp1 rfl rfl hf hs ⟨r37, rfl, h⟩)
        · replace h := And.right h hc32
          refine GC.seq ?_
          refine GC.region ?_
          refine GL.val trivial rfl (OV.ibin (v := .bool ((x16 : Int) == 6)) rfl rfl rfl) ?_
          refine GL.val trivial rfl (OV.assign (v := .bool ((x16 : Int) == 6)) rfl) ?_
          refine GL.nil ?_
          refine GC.cond (b := (x16 : Int) == 6) rfl (fun hc39 => ?_) (fun hc39 => ?_)
          · replace h := And.left h hc39
            refine GC.seq ?_
            refine GC.region ?_
            refine GL.val trivial rfl (OV.fieldAddr (p := (b1, 0)) rfl rfl) ?_
            obtain ⟨x40, hr41, h⟩ := h
            refine GL.val trivial rfl (OV.load (p := ((b1, 0).1, (b1, 0).2 + 2)) rfl rfl hr41) ?_
            refine GL.val trivial rfl (OV.fieldAddr (p := (b3, 0)) rfl rfl) ?_
            obtain ⟨x42, hr43, h⟩ := h
            refine GL.val trivial rfl (OV.load (p := ((b3, 0).1, (b3, 0).2 + 2)) rfl rfl hr43) ?_
            refine GL.call h trivial rfl ok_ref02_texts (vs := [sv x40, sv x42]) rfl ?_
            rintro _ H45 ⟨r44, rfl, h⟩
            refine GL.val trivial rfl (OV.assign (v := .int .i64 r44) rfl) ?_
            refine GL.nil ?_
            refine GC.seq ?_
            refine GC.seq ?_
            refine GC.region ?_
            refine GL.val trivial rfl (OV.move (v := .int .i64 r44) rfl) ?_
            refine GL.val trivial rfl (OV.ibin (v := .bool ((r44 : Int) != 0)) rfl rfl rfl) ?_
            refine GL.nil ?_
            refine GC.cond (b := (r44 : Int) != 0) rfl (fun hc46 => ?_) (fun hc46 => ?_)
            · replace h := And.left h hc46
              refine GC.seq ?_
              refine GC.region ?_
              refine GL.val trivial rfl (OV.move (v := .int .i64 r44) rfl) ?_
              refine GL.val trivial rfl (OV.assign (v := .int .i64 r44) rfl) ?_
              refine GL.nil ?_
              exact GC.ret (fun _ _ hf hs => post_tmp1 rfl rfl hf hs ⟨r44, rfl, h⟩)
            · replace h := And.right h hc46
              refine GC.skip ?_
              refine GC.seq ?_
              refine GC.region ?_
              refine GL.val trivial rfl (OV.fieldAddr (p := (b1, 0)) rfl rfl) ?_
              obtain ⟨x47, hr48, h⟩ := h
              refine GL.val trivial rfl (OV.load (p := ((b1, 0).1, (b1, 0).2 + 3)) rfl rfl hr48) ?_
              refine GL.val trivial rfl (OV.fieldAddr (p := (b3, 0)) rfl rfl) ?_
              obtain ⟨x49, hr50, h⟩ := h
              refine GL.val trivial rfl (OV.load (p := ((b3, 0).1, (b3, 0).2 + 3)) rfl rfl hr50) ?_
              refine GL.call h trivial rfl ok_ref02_rows (vs := [slv x47, slv x49]) rfl ?_
              rintro _ H52 ⟨r51, rfl, h⟩
              refine GL.val trivial rfl (OV.assign (v := .int .i64 r51) rfl) ?_
              refine GL.nil ?_
              exact GC.ret (fun _ _ hf hs => post_tmp1 rfl rfl hf hs ⟨r51, rfl, h⟩)
          · replace h := And.right h hc39
            refine GC.skip_to (fun _ _ h => h) ?_
            refine GC.seq ?_
            refine GC.region ?_
            refine GL.val trivial rfl (OV.fieldAddr (p := (b1, 0)) rfl rfl) ?_
            obtain ⟨x53, hr54, h⟩ := h
            refine GL.val trivial rfl (OV.load (p := ((b1, 0).1, (b1, 0).2 + 1)) rfl rfl hr54) ?_
            refine GL.val trivial rfl (OV.fieldAddr (p := (b3, 0)) rfl rfl) ?_
            obtain ⟨x55, hr56, h⟩ := h
            refine GL.val trivial rfl (OV.load (p := ((b3, 0).1, (b3, 0).2 + 1)) rfl rfl hr56) ?_
            refine GL.call h trivial rfl ok_ref02_ints (vs := [.int .i64 x53, .int .i64 x55]) rfl ?_
            rintro _ H58 ⟨r57, rfl, h⟩
            refine GL.val trivial rfl (OV.assign (v := .int .i64 r57) rfl) ?_
            refine GL.nil ?_
            exact GC.ret (fun _ _ hf hs => post_tmp1 rfl rfl hf hs ⟨r57, rfl, h⟩)

def sh_value_own (C : Ctx) (p_l : Sl) (K : Sl → Heap → Prop) (H : Heap) : Prop :=
  ift (((Sl.len p_l : Int) : Int) == 0)
 (K Sl.nil H)
 (c_slices_Clone_api_Value_api_Value C p_l (fun r2 H3 =>
 lp (α := Int) 0 H3 (fun x4 J5 H6 =>
 ift (decide ((x4 : Int) < (Sl.len r2 : Int)))
 (ixa r2 x4 fun p8 =>
 ldL H6 ((p8.1, p8.2 + (x4 : Int).toNat * 4).1, (p8.1, p8.2 + (x4 : Int).toNat * 4).2 + 3) fun x13 =>
 c_value_own C x13 (fun r15 H16 =>
 ixa r2 x4 fun p17 =>
 st ((p17.1, p17.2 + (x4 : Int).toNat * 4).1, (p17.1, p17.2 + (x4 : Int).toNat * 4).2 + 3) (slv r15) (fun H22 =>
 J5 (w .i64 (x4 + 1)) H22) H16) H6)
 (K r2 H6))) H)

theorem ad_value_own (C : Ctx) (p_l : Sl) (K : Sl → Heap → Prop) (H : Heap) (h : sh_value_own C p_l K H) : c_value_own C p_l K H := by
  refine Spec.enter Tryz.func27 rfl Tryz.ntmps27 rfl ?_
  refine GC.sub [(0, slv p_l)] ⟨rfl, trivial⟩ ?_
  refine GC.seq ?_
  refine GC.region ?_
  refine GL.val trivial rfl (OV.assign (v := slv Sl.nil) rfl) ?_
  refine GL.nil ?_
  refine GC.seq ?_
  refine GC.seq ?_
  refine GC.region ?_
  refine GL.val trivial rfl (OV.move (v := slv p_l) rfl) ?_
  refine GL.val trivial rfl (OV.lenSl (s := p_l) rfl rfl) ?_
  refine GL.val trivial rfl (OV.ibin (v := .bool (((Sl.len p_l : Int) : Int) == 0)) rfl rfl rfl) ?_
  refine GL.nil ?_
  refine GC.cond (b := ((Sl.len p_l : Int) : Int) == 0) rfl (fun hc1 => ?_) (fun hc1 => ?_)
  · replace h := And.left h hc1
    refine GC.seq ?_
    refine GC.region ?_
    refine GL.val trivial rfl (OV.assign (v := slv Sl.nil) rfl) ?_
    refine GL.nil ?_
    exact GC.ret (fun _ _ hf hs => post_tmp1 rfl rfl hf hs ⟨Sl.nil, rfl, h⟩)
  · replace h := And.right h hc1
    refine GC.skip ?_
    refine GC.seq ?_
    refine GC.region ?_
    refine GL.val trivial rfl (OV.move (v := slv p_l) rfl) ?_
    refine GL.call h trivial rfl ok_slices_Clone_api_Value_api_Value (vs := [slv p_l]) rfl ?_
    rintro _ H3 ⟨r2, rfl, h⟩
    refine GL.val trivial rfl (OV.assign (v := slv r2) rfl) ?_
    refine GL.nil ?_
    refine GC.seq ?_
    refine GC.seq ?_
    refine GC.region ?_
    refine GL.val trivial rfl (OV.move (v := slv r2) rfl) ?_
    refine GL.val trivial rfl (OV.lenSl (s := r2) rfl rfl) ?_
    refine GL.val trivial rfl (OV.move (v := .int .i64 0) rfl) ?_
    refine GL.nil ?_
    refine GC.block ?_
    refine GC.loop (α := Int) h (fun x4 => [(12, .int .i64 x4), (3, slv r2), (11, .int .i64 (Sl.len r2 : Int))]) ⟨rfl, rfl, rfl, trivial⟩ ?_
    intro x4 H6 J5 h
    refine GC.seq ?_
    refine GC.region ?_
    refine GL.val trivial rfl (OV.ibin (v := .bool (decide ((x4 : Int) < (Sl.len r2 : Int)))) rfl rfl rfl) ?_
    refine GL.nil ?_
    refine GC.seq ?_
    refine GC.cond (b := decide ((x4 : Int) < (Sl.len r2 : Int))) rfl (fun hc7 => ?_) (fun hc7 => ?_)
    · replace h := And.left h hc7
      refine GC.skip ?_
      refine GC.seq ?_
      refine GC.block ?_
      refine GC.seq ?_
      refine GC.region ?_
      refine GL.val trivial rfl (OV.move (v := .int .i64 x4) rfl) ?_
      refine GL.val trivial rfl (OV.assign (v := .int .i64 x4) rfl) ?_
      refine GL.nil ?_
      refine GC.region ?_
      refine GL.val trivial rfl (OV.move (v := slv r2) rfl) ?_
      refine GL.val trivial rfl (OV.move (v := .int .i64 x4) rfl) ?_
      refine GL.val trivial rfl (OV.move (v := slv r2) rfl) ?_
      refine GL.val trivial rfl (OV.move (v := .int .i64 x4) rfl) ?_
      obtain ⟨p8, ha9, hb10, hc11, hd12, h⟩ := h
      refine GL.val trivial rfl (OV.indexAddr (s := r2) rfl rfl rfl rfl ha9 hb10 hc11 hd12) ?_
      refine GL.val trivial rfl (OV.fieldAddr (p := (p8.1, p8.2 + (x4 : Int).toNat * 4)) rfl rfl) ?_
      obtain ⟨x13, hr14, h⟩ := h
      refine GL.val trivial rfl (OV.load (p := ((p8.1, p8.2 + (x4 : Int).toNat * 4).1, (p8.1, p8.2 + (x4 : Int).toNat * 4).2 + 3)) rfl rfl hr14) ?_
      refine GL.call h trivial rfl ok_value_own (vs := [slv x13]) rfl ?_
      rintro _ H16 ⟨r15, rfl, h⟩
      obtain ⟨p17, ha18, hb19, hc20, hd21, h⟩ := h
      refine GL.val trivial rfl (OV.indexAddr (s := r2) rfl rfl rfl rfl ha18 hb19 hc20 hd21) ?_
      refine GL.val trivial rfl (OV.fieldAddr (p := (p17.1, p17.2 + (x4 : Int).toNat * 4)) rfl rfl) ?_
      refine GL.store (p := ((p17.1, p17.2 + (x4 : Int).toNat * 4).1, (p17.1, p17.2 + (x4 : Int).toNat * 4).2 + 3)) (v := slv r15) h trivial rfl rfl rfl rfl ?_
      intro H22 h
      refine GL.nil_to (fun _ _ h => h) ?_
      refine GC.region ?_
      refine GL.val trivial rfl (OV.ibin (v := .int .i64 (w .i64 (x4 + 1))) rfl rfl rfl) ?_
      refine GL.val trivial rfl (OV.move (v := .int .i64 (w .i64 (x4 + 1))) rfl) ?_
      exact GL.jump (fun _ _ h => h) (w .i64 (x4 + 1)) h ⟨rfl, rfl, rfl, trivial⟩
    · replace h := And.right h hc7
      refine GC.exit_to (fun _ _ h => h) ?_
      refine GC.seq ?_
      refine GC.region ?_
      refine GL.val trivial rfl (OV.move (v := slv r2) rfl) ?_
      refine GL.val trivial rfl (OV.assign (v := slv r2) rfl) ?_
      refine GL.nil ?_
      exact GC.ret (fun _ _ hf hs => post_tmp1 rfl rfl hf hs ⟨r2, rfl, h⟩)

def sh_slices_SortStableFunc_api_Value_api_Value (C : Ctx) (p_x : Sl) (p_cmp : Value) (K : Heap → Prop) (H : Heap) : Prop :=
  c_slices_stableCmpFunc_api_Value C p_x (Sl.len p_x : Int) p_cmp (fun H1 =>
 K H1) H

theorem ad_slices_SortStableFunc_api_Value_api_Value (C : Ctx) (p_x : Sl) (p_cmp : Value) (K : Heap → Prop) (H : Heap) (h : sh_slices_SortStableFunc_api_Value_api_Value C p_x p_cmp K H) : c_slices_SortStableFunc_api_Value_api_Value C p_x p_cmp K H := by
  refine Spec.enter Tryz.func28 rfl Tryz.ntmps28 rfl ?_
  refine GC.sub [(0, slv p_x), (1, p_cmp)] ⟨rfl, rfl, trivial⟩ ?_
  refine GC.region ?_
  refine GL.val trivial rfl (OV.move (v := slv p_x) rfl) ?_
  refine GL.val trivial rfl (OV.move (v := slv p_x) rfl) ?_
  refine GL.val trivial rfl (OV.lenSl (s := p_x) rfl rfl) ?_
  refine GL.val trivial rfl (OV.move (v := p_cmp) rfl) ?_
  refine GL.call h trivial rfl ok_slices_stableCmpFunc_api_Value (vs := [slv p_x, .int .i64 (Sl.len p_x : Int), p_cmp]) rfl ?_
  rintro _ H1 ⟨rfl, h⟩
  exact GL.ends (fun _ _ hf hs => post_tmp0 rfl hf hs ⟨rfl, h⟩)

end Sx
end

