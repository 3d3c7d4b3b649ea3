/-
  Texts of this family, one behind the other: Sh1.
-/
import Derived.Test.YthfggbmlmpegaaaDoorA1
import Derived.Test.YthfggbmlmpegaaaDoorProg
noncomputable section
set_option linter.unusedVariables false
set_option maxRecDepth 100000
namespace Sx
open Go Go.Proofs
structure T_api_Value where
  Kind : Int
  N : Int
  S : Str
  L : Sl
def T_api_Value.c (x : T_api_Value) : List Value := [.int .u8 x.Kind, .int .i64 x.N, sv x.S, slv x.L]
def T_api_Value.zero : T_api_Value := ⟨0, 0, [], Sl.nil⟩

theorem ok_value_Cmp : CallOk Tryd.prog 12 := ⟨⟨_, Tryd.func12, rfl, by decide +kernel⟩⟩
theorem ok_value_Check : CallOk Tryd.prog 13 := ⟨⟨_, Tryd.func13, rfl, by decide +kernel⟩⟩
theorem ok_value_Show : CallOk Tryd.prog 14 := ⟨⟨_, Tryd.func14, rfl, by decide +kernel⟩⟩
theorem ok_law02_awake : CallOk Tryd.prog 15 := ⟨⟨_, Tryd.func15, rfl, by decide +kernel⟩⟩
theorem ok_law02_heavy : CallOk Tryd.prog 16 := ⟨⟨_, Tryd.func16, rfl, by decide +kernel⟩⟩
theorem ok_value_CmpRows : CallOk Tryd.prog 17 := ⟨⟨_, Tryd.func17, rfl, by decide +kernel⟩⟩
theorem ok_ref02_SameRow : CallOk Tryd.prog 19 := ⟨⟨_, Tryd.func19, rfl, by decide +kernel⟩⟩
theorem ok_ref02_Same : CallOk Tryd.prog 20 := ⟨⟨_, Tryd.func20, rfl, by decide +kernel⟩⟩
theorem ok_value_Sort : CallOk Tryd.prog 21 := ⟨⟨_, Tryd.func21, rfl, by decide +kernel⟩⟩
theorem ok_value_depth : CallOk Tryd.prog 22 := ⟨⟨_, Tryd.func22, rfl, by decide +kernel⟩⟩
theorem ok_value_item_look : CallOk Tryd.prog 23 := ⟨⟨_, Tryd.func23, rfl, by decide +kernel⟩⟩
theorem ok_value_Show_1 : CallOk Tryd.prog 24 := ⟨⟨_, Tryd.func24, rfl, by decide +kernel⟩⟩
theorem ok_strings_Builder_WriteByte : CallOk Tryd.prog 25 := ⟨⟨_, Tryd.func25, rfl, by decide +kernel⟩⟩
theorem ok_strings_Builder_WriteString : CallOk Tryd.prog 26 := ⟨⟨_, Tryd.func26, rfl, by decide +kernel⟩⟩
theorem ok_value_Show_2 : CallOk Tryd.prog 27 := ⟨⟨_, Tryd.func27, rfl, by decide +kernel⟩⟩
theorem ok_strconv_FormatBool : CallOk Tryd.prog 28 := ⟨⟨_, Tryd.func28, rfl, by decide +kernel⟩⟩
theorem ok_strconv_FormatInt : CallOk Tryd.prog 29 := ⟨⟨_, Tryd.func29, rfl, by decide +kernel⟩⟩
theorem ok_value_quote : CallOk Tryd.prog 30 := ⟨⟨_, Tryd.func30, rfl, by decide +kernel⟩⟩
theorem ok_strings_Builder_String : CallOk Tryd.prog 31 := ⟨⟨_, Tryd.func31, rfl, by decide +kernel⟩⟩
theorem ok_law02_weight : CallOk Tryd.prog 32 := ⟨⟨_, Tryd.func32, rfl, by decide +kernel⟩⟩
theorem ok_value_may : CallOk Tryd.prog 33 := ⟨⟨_, Tryd.func33, rfl, by decide +kernel⟩⟩
theorem ok_value_last : CallOk Tryd.prog 34 := ⟨⟨_, Tryd.func34, rfl, by decide +kernel⟩⟩
theorem ok_value_rows : CallOk Tryd.prog 35 := ⟨⟨_, Tryd.func35, rfl, by decide +kernel⟩⟩
theorem ok_value_own : CallOk Tryd.prog 36 := ⟨⟨_, Tryd.func36, rfl, by decide +kernel⟩⟩
theorem ok_slices_SortStableFunc_api_Value_api_Value : CallOk Tryd.prog 37 := ⟨⟨_, Tryd.func37, rfl, by decide +kernel⟩⟩
theorem ok_slices_CompactFunc_api_Value_api_Value : CallOk Tryd.prog 38 := ⟨⟨_, Tryd.func38, rfl, by decide +kernel⟩⟩
theorem ok_value_Sort_1 : CallOk Tryd.prog 39 := ⟨⟨_, Tryd.func39, rfl, by decide +kernel⟩⟩
theorem ok_value_number : CallOk Tryd.prog 40 := ⟨⟨_, Tryd.func40, rfl, by decide +kernel⟩⟩
theorem ok_strings_Cut : CallOk Tryd.prog 41 := ⟨⟨_, Tryd.func41, rfl, by decide +kernel⟩⟩
theorem ok_value_name : CallOk Tryd.prog 42 := ⟨⟨_, Tryd.func42, rfl, by decide +kernel⟩⟩
theorem ok_strings_Builder_copyCheck : CallOk Tryd.prog 43 := ⟨⟨_, Tryd.func43, rfl, by decide +kernel⟩⟩
theorem ok_internal_strconv_FormatBool : CallOk Tryd.prog 44 := ⟨⟨_, Tryd.func44, rfl, by decide +kernel⟩⟩
theorem ok_slices_ContainsFunc_api_Value_api_Value : CallOk Tryd.prog 46 := ⟨⟨_, Tryd.func46, rfl, by decide +kernel⟩⟩
theorem ok_value_may_1 : CallOk Tryd.prog 47 := ⟨⟨_, Tryd.func47, rfl, by decide +kernel⟩⟩
theorem ok_slices_CompareFunc_api_Value_api_Value_api_Value_api_Value : CallOk Tryd.prog 48 := ⟨⟨_, Tryd.func48, rfl, by decide +kernel⟩⟩
theorem ok_value_rows_1 : CallOk Tryd.prog 49 := ⟨⟨_, Tryd.func49, rfl, by decide +kernel⟩⟩
theorem ok_value_item_cmp : CallOk Tryd.prog 50 := ⟨⟨_, Tryd.func50, rfl, by decide +kernel⟩⟩
theorem ok_slices_Clone_api_Value_api_Value : CallOk Tryd.prog 51 := ⟨⟨_, Tryd.func51, rfl, by decide +kernel⟩⟩
theorem ok_slices_stableCmpFunc_api_Value : CallOk Tryd.prog 52 := ⟨⟨_, Tryd.func52, rfl, by decide +kernel⟩⟩
theorem ok_strings_TrimPrefix : CallOk Tryd.prog 53 := ⟨⟨_, Tryd.func53, rfl, by decide +kernel⟩⟩
theorem ok_strings_Trim : CallOk Tryd.prog 54 := ⟨⟨_, Tryd.func54, rfl, by decide +kernel⟩⟩
theorem ok_internal_stringslite_Cut : CallOk Tryd.prog 55 := ⟨⟨_, Tryd.func55, rfl, by decide +kernel⟩⟩
theorem ok_slices_IndexFunc_api_Value_api_Value : CallOk Tryd.prog 61 := ⟨⟨_, Tryd.func61, rfl, by decide +kernel⟩⟩
theorem ok_cmp_Compare_uint8 : CallOk Tryd.prog 62 := ⟨⟨_, Tryd.func62, rfl, by decide +kernel⟩⟩
theorem ok_value_bigs : CallOk Tryd.prog 63 := ⟨⟨_, Tryd.func63, rfl, by decide +kernel⟩⟩
theorem ok_cmp_Compare_string : CallOk Tryd.prog 64 := ⟨⟨_, Tryd.func64, rfl, by decide +kernel⟩⟩
theorem ok_cmp_Or_int : CallOk Tryd.prog 65 := ⟨⟨_, Tryd.func65, rfl, by decide +kernel⟩⟩
theorem ok_cmp_Compare_int64 : CallOk Tryd.prog 66 := ⟨⟨_, Tryd.func66, rfl, by decide +kernel⟩⟩
theorem ok_slices_insertionSortCmpFunc_api_Value : CallOk Tryd.prog 67 := ⟨⟨_, Tryd.func67, rfl, by decide +kernel⟩⟩
theorem ok_slices_symMergeCmpFunc_api_Value : CallOk Tryd.prog 68 := ⟨⟨_, Tryd.func68, rfl, by decide +kernel⟩⟩
theorem ok_internal_stringslite_TrimPrefix : CallOk Tryd.prog 69 := ⟨⟨_, Tryd.func69, rfl, by decide +kernel⟩⟩
theorem ok_strings_trimLeftByte : CallOk Tryd.prog 70 := ⟨⟨_, Tryd.func70, rfl, by decide +kernel⟩⟩
theorem ok_strings_trimRightByte : CallOk Tryd.prog 71 := ⟨⟨_, Tryd.func71, rfl, by decide +kernel⟩⟩
theorem ok_strings_makeASCIISet : CallOk Tryd.prog 72 := ⟨⟨_, Tryd.func72, rfl, by decide +kernel⟩⟩
theorem ok_strings_trimLeftASCII : CallOk Tryd.prog 73 := ⟨⟨_, Tryd.func73, rfl, by decide +kernel⟩⟩
theorem ok_strings_trimRightASCII : CallOk Tryd.prog 74 := ⟨⟨_, Tryd.func74, rfl, by decide +kernel⟩⟩
theorem ok_strings_trimLeftUnicode : CallOk Tryd.prog 75 := ⟨⟨_, Tryd.func75, rfl, by decide +kernel⟩⟩
theorem ok_strings_trimRightUnicode : CallOk Tryd.prog 76 := ⟨⟨_, Tryd.func76, rfl, by decide +kernel⟩⟩
theorem ok_internal_stringslite_Index : CallOk Tryd.prog 77 := ⟨⟨_, Tryd.func77, rfl, by decide +kernel⟩⟩
theorem ok_cmp_isNaN_uint8 : CallOk Tryd.prog 83 := ⟨⟨_, Tryd.func83, rfl, by decide +kernel⟩⟩
theorem ok_strings_HasPrefix : CallOk Tryd.prog 84 := ⟨⟨_, Tryd.func84, rfl, by decide +kernel⟩⟩
theorem ok_cmp_Compare_int : CallOk Tryd.prog 85 := ⟨⟨_, Tryd.func85, rfl, by decide +kernel⟩⟩
theorem ok_cmp_isNaN_string : CallOk Tryd.prog 86 := ⟨⟨_, Tryd.func86, rfl, by decide +kernel⟩⟩
theorem ok_cmp_isNaN_int64 : CallOk Tryd.prog 87 := ⟨⟨_, Tryd.func87, rfl, by decide +kernel⟩⟩
theorem ok_slices_rotateCmpFunc_api_Value : CallOk Tryd.prog 88 := ⟨⟨_, Tryd.func88, rfl, by decide +kernel⟩⟩
theorem ok_internal_stringslite_HasPrefix : CallOk Tryd.prog 89 := ⟨⟨_, Tryd.func89, rfl, by decide +kernel⟩⟩
theorem ok_strings_asciiSet_contains : CallOk Tryd.prog 90 := ⟨⟨_, Tryd.func90, rfl, by decide +kernel⟩⟩
theorem ok_internal_stringslite_IndexByte : CallOk Tryd.prog 94 := ⟨⟨_, Tryd.func94, rfl, by decide +kernel⟩⟩
theorem ok_internal_bytealg_Cutover : CallOk Tryd.prog 96 := ⟨⟨_, Tryd.func96, rfl, by decide +kernel⟩⟩
theorem ok_internal_bytealg_IndexRabinKarp_string : CallOk Tryd.prog 97 := ⟨⟨_, Tryd.func97, rfl, by decide +kernel⟩⟩
theorem ok_cmp_isNaN_int : CallOk Tryd.prog 100 := ⟨⟨_, Tryd.func100, rfl, by decide +kernel⟩⟩
theorem ok_slices_swapRangeCmpFunc_api_Value : CallOk Tryd.prog 101 := ⟨⟨_, Tryd.func101, rfl, by decide +kernel⟩⟩
theorem ext_internal_abi_NoEscape : ExtOk Tryd.prog 56 Extern.AbiNoEscape.same := ⟨⟨_, Tryd.func56, by kernel_rfl, by kernel_rfl, by kernel_rfl, by kernel_rfl⟩⟩
theorem ext_internal_bytealg_IndexByteString : ExtOk Tryd.prog 105 Extern.BytealgIndexByte.indexByte := ⟨⟨_, Tryd.func105, by kernel_rfl, by kernel_rfl, by kernel_rfl, by kernel_rfl⟩⟩

abbrev tyB : TypeId := 49
abbrev tyE : TypeId := 5
abbrev Bd (bs : Str) : GO := .bld tyB tyE bs

def c_law02_ValueTexts (C : Ctx) (p_a : T_api_Value) (p_b : T_api_Value) (K : Bool → Heap → Prop) (H : Heap) : Prop :=
  Spec Tryd.prog C 5 [.agg (T_api_Value.c p_a).toArray, .agg (T_api_Value.c p_b).toArray] H (fun v H2 => ∃ (r0 : Bool), v = .bool r0 ∧ K r0 H2)
theorem c_law02_ValueTexts.mono {C : Ctx} {p_a : T_api_Value} {p_b : T_api_Value} {K K2 : Bool → Heap → Prop} {H : Heap} (h : c_law02_ValueTexts C p_a p_b K H) (hk : ∀ r0 H2, K r0 H2 → K2 r0 H2) : c_law02_ValueTexts C p_a p_b K2 H :=
  Spec.mono h fun _ H2 ⟨r0, hv, h2⟩ => ⟨r0, hv, hk r0 H2 h2⟩
theorem c_law02_ValueTexts.gh {C : Ctx} {p_a : T_api_Value} {p_b : T_api_Value} {K : Bool → Heap → Prop} {H : Heap} (h : c_law02_ValueTexts C p_a p_b (fun r0 H2 => ∃ H0, Gh C H2 H0 ∧ K r0 H0) H) : c_law02_ValueTexts C p_a p_b K H :=
  Spec.gh (Spec.mono h fun _ H2 ⟨r0, hv, H0, hg, hk⟩ => ⟨H0, hg, r0, hv, hk⟩)
def c_value_Cmp (C : Ctx) (p_a : T_api_Value) (p_b : T_api_Value) (K : Int → Heap → Prop) (H : Heap) : Prop :=
  Spec Tryd.prog C 12 [.agg (T_api_Value.c p_a).toArray, .agg (T_api_Value.c p_b).toArray] H (fun v H2 => ∃ (r0 : Int), v = .int .i64 r0 ∧ K r0 H2)
theorem c_value_Cmp.mono {C : Ctx} {p_a : T_api_Value} {p_b : T_api_Value} {K K2 : Int → Heap → Prop} {H : Heap} (h : c_value_Cmp C p_a p_b K H) (hk : ∀ r0 H2, K r0 H2 → K2 r0 H2) : c_value_Cmp C p_a p_b K2 H :=
  Spec.mono h fun _ H2 ⟨r0, hv, h2⟩ => ⟨r0, hv, hk r0 H2 h2⟩
theorem c_value_Cmp.gh {C : Ctx} {p_a : T_api_Value} {p_b : T_api_Value} {K : Int → Heap → Prop} {H : Heap} (h : c_value_Cmp C p_a p_b (fun r0 H2 => ∃ H0, Gh C H2 H0 ∧ K r0 H0) H) : c_value_Cmp C p_a p_b K H :=
  Spec.gh (Spec.mono h fun _ H2 ⟨r0, hv, H0, hg, hk⟩ => ⟨H0, hg, r0, hv, hk⟩)
def c_value_Check (C : Ctx) (p_v : T_api_Value) (K : Int → Heap → Prop) (H : Heap) : Prop :=
  Spec Tryd.prog C 13 [.agg (T_api_Value.c p_v).toArray] H (fun v H2 => ∃ (r0 : Int), v = .int .i64 r0 ∧ K r0 H2)
theorem c_value_Check.mono {C : Ctx} {p_v : T_api_Value} {K K2 : Int → Heap → Prop} {H : Heap} (h : c_value_Check C p_v K H) (hk : ∀ r0 H2, K r0 H2 → K2 r0 H2) : c_value_Check C p_v K2 H :=
  Spec.mono h fun _ H2 ⟨r0, hv, h2⟩ => ⟨r0, hv, hk r0 H2 h2⟩
theorem c_value_Check.gh {C : Ctx} {p_v : T_api_Value} {K : Int → Heap → Prop} {H : Heap} (h : c_value_Check C p_v (fun r0 H2 => ∃ H0, Gh C H2 H0 ∧ K r0 H0) H) : c_value_Check C p_v K H :=
  Spec.gh (Spec.mono h fun _ H2 ⟨r0, hv, H0, hg, hk⟩ => ⟨H0, hg, r0, hv, hk⟩)
def c_value_Show (C : Ctx) (p_v : T_api_Value) (K : Str → Heap → Prop) (H : Heap) : Prop :=
  Spec Tryd.prog C 14 [.agg (T_api_Value.c p_v).toArray] H (fun v H2 => ∃ (r0 : Str), v = sv r0 ∧ K r0 H2)
theorem c_value_Show.mono {C : Ctx} {p_v : T_api_Value} {K K2 : Str → Heap → Prop} {H : Heap} (h : c_value_Show C p_v K H) (hk : ∀ r0 H2, K r0 H2 → K2 r0 H2) : c_value_Show C p_v K2 H :=
  Spec.mono h fun _ H2 ⟨r0, hv, h2⟩ => ⟨r0, hv, hk r0 H2 h2⟩
theorem c_value_Show.gh {C : Ctx} {p_v : T_api_Value} {K : Str → Heap → Prop} {H : Heap} (h : c_value_Show C p_v (fun r0 H2 => ∃ H0, Gh C H2 H0 ∧ K r0 H0) H) : c_value_Show C p_v K H :=
  Spec.gh (Spec.mono h fun _ H2 ⟨r0, hv, H0, hg, hk⟩ => ⟨H0, hg, r0, hv, hk⟩)
def c_law02_awake (C : Ctx) (K : Bool → Heap → Prop) (H : Heap) : Prop :=
  Spec Tryd.prog C 15 [] H (fun v H2 => ∃ (r0 : Bool), v = .bool r0 ∧ K r0 H2)
theorem c_law02_awake.mono {C : Ctx} {K K2 : Bool → Heap → Prop} {H : Heap} (h : c_law02_awake C  K H) (hk : ∀ r0 H2, K r0 H2 → K2 r0 H2) : c_law02_awake C  K2 H :=
  Spec.mono h fun _ H2 ⟨r0, hv, h2⟩ => ⟨r0, hv, hk r0 H2 h2⟩
theorem c_law02_awake.gh {C : Ctx} {K : Bool → Heap → Prop} {H : Heap} (h : c_law02_awake C  (fun r0 H2 => ∃ H0, Gh C H2 H0 ∧ K r0 H0) H) : c_law02_awake C  K H :=
  Spec.gh (Spec.mono h fun _ H2 ⟨r0, hv, H0, hg, hk⟩ => ⟨H0, hg, r0, hv, hk⟩)
def c_law02_heavy (C : Ctx) (p_l : Sl) (K : Bool → Heap → Prop) (H : Heap) : Prop :=
  Spec Tryd.prog C 16 [slv p_l] H (fun v H2 => ∃ (r0 : Bool), v = .bool r0 ∧ K r0 H2)
theorem c_law02_heavy.mono {C : Ctx} {p_l : Sl} {K K2 : Bool → Heap → Prop} {H : Heap} (h : c_law02_heavy C p_l K H) (hk : ∀ r0 H2, K r0 H2 → K2 r0 H2) : c_law02_heavy C p_l K2 H :=
  Spec.mono h fun _ H2 ⟨r0, hv, h2⟩ => ⟨r0, hv, hk r0 H2 h2⟩
theorem c_law02_heavy.gh {C : Ctx} {p_l : Sl} {K : Bool → Heap → Prop} {H : Heap} (h : c_law02_heavy C p_l (fun r0 H2 => ∃ H0, Gh C H2 H0 ∧ K r0 H0) H) : c_law02_heavy C p_l K H :=
  Spec.gh (Spec.mono h fun _ H2 ⟨r0, hv, H0, hg, hk⟩ => ⟨H0, hg, r0, hv, hk⟩)
def c_value_CmpRows (C : Ctx) (p_a : Sl) (p_b : Sl) (K : Int → Heap → Prop) (H : Heap) : Prop :=
  Spec Tryd.prog C 17 [slv p_a, slv p_b] H (fun v H2 => ∃ (r0 : Int), v = .int .i64 r0 ∧ K r0 H2)
theorem c_value_CmpRows.mono {C : Ctx} {p_a : Sl} {p_b : Sl} {K K2 : Int → Heap → Prop} {H : Heap} (h : c_value_CmpRows C p_a p_b K H) (hk : ∀ r0 H2, K r0 H2 → K2 r0 H2) : c_value_CmpRows C p_a p_b K2 H :=
  Spec.mono h fun _ H2 ⟨r0, hv, h2⟩ => ⟨r0, hv, hk r0 H2 h2⟩
theorem c_value_CmpRows.gh {C : Ctx} {p_a : Sl} {p_b : Sl} {K : Int → Heap → Prop} {H : Heap} (h : c_value_CmpRows C p_a p_b (fun r0 H2 => ∃ H0, Gh C H2 H0 ∧ K r0 H0) H) : c_value_CmpRows C p_a p_b K H :=
  Spec.gh (Spec.mono h fun _ H2 ⟨r0, hv, H0, hg, hk⟩ => ⟨H0, hg, r0, hv, hk⟩)
def c_ref02_SameRow (C : Ctx) (p_a : Sl) (p_b : Sl) (K : Bool → Heap → Prop) (H : Heap) : Prop :=
  Spec Tryd.prog C 19 [slv p_a, slv p_b] H (fun v H2 => ∃ (r0 : Bool), v = .bool r0 ∧ K r0 H2)
theorem c_ref02_SameRow.mono {C : Ctx} {p_a : Sl} {p_b : Sl} {K K2 : Bool → Heap → Prop} {H : Heap} (h : c_ref02_SameRow C p_a p_b K H) (hk : ∀ r0 H2, K r0 H2 → K2 r0 H2) : c_ref02_SameRow C p_a p_b K2 H :=
  Spec.mono h fun _ H2 ⟨r0, hv, h2⟩ => ⟨r0, hv, hk r0 H2 h2⟩
theorem c_ref02_SameRow.gh {C : Ctx} {p_a : Sl} {p_b : Sl} {K : Bool → Heap → Prop} {H : Heap} (h : c_ref02_SameRow C p_a p_b (fun r0 H2 => ∃ H0, Gh C H2 H0 ∧ K r0 H0) H) : c_ref02_SameRow C p_a p_b K H :=
  Spec.gh (Spec.mono h fun _ H2 ⟨r0, hv, H0, hg, hk⟩ => ⟨H0, hg, r0, hv, hk⟩)
def c_ref02_Same (C : Ctx) (p_a : T_api_Value) (p_b : T_api_Value) (K : Bool → Heap → Prop) (H : Heap) : Prop :=
  Spec Tryd.prog C 20 [.agg (T_api_Value.c p_a).toArray, .agg (T_api_Value.c p_b).toArray] H (fun v H2 => ∃ (r0 : Bool), v = .bool r0 ∧ K r0 H2)
theorem c_ref02_Same.mono {C : Ctx} {p_a : T_api_Value} {p_b : T_api_Value} {K K2 : Bool → Heap → Prop} {H : Heap} (h : c_ref02_Same C p_a p_b K H) (hk : ∀ r0 H2, K r0 H2 → K2 r0 H2) : c_ref02_Same C p_a p_b K2 H :=
  Spec.mono h fun _ H2 ⟨r0, hv, h2⟩ => ⟨r0, hv, hk r0 H2 h2⟩
theorem c_ref02_Same.gh {C : Ctx} {p_a : T_api_Value} {p_b : T_api_Value} {K : Bool → Heap → Prop} {H : Heap} (h : c_ref02_Same C p_a p_b (fun r0 H2 => ∃ H0, Gh C H2 H0 ∧ K r0 H0) H) : c_ref02_Same C p_a p_b K H :=
  Spec.gh (Spec.mono h fun _ H2 ⟨r0, hv, H0, hg, hk⟩ => ⟨H0, hg, r0, hv, hk⟩)
def c_value_Sort (C : Ctx) (p_l : Sl) (K : Sl → Heap → Prop) (H : Heap) : Prop :=
  Spec Tryd.prog C 21 [slv p_l] H (fun v H2 => ∃ (r0 : Sl), v = slv r0 ∧ K r0 H2)
theorem c_value_Sort.mono {C : Ctx} {p_l : Sl} {K K2 : Sl → Heap → Prop} {H : Heap} (h : c_value_Sort C p_l K H) (hk : ∀ r0 H2, K r0 H2 → K2 r0 H2) : c_value_Sort C p_l K2 H :=
  Spec.mono h fun _ H2 ⟨r0, hv, h2⟩ => ⟨r0, hv, hk r0 H2 h2⟩
theorem c_value_Sort.gh {C : Ctx} {p_l : Sl} {K : Sl → Heap → Prop} {H : Heap} (h : c_value_Sort C p_l (fun r0 H2 => ∃ H0, Gh C H2 H0 ∧ K r0 H0) H) : c_value_Sort C p_l K H :=
  Spec.gh (Spec.mono h fun _ H2 ⟨r0, hv, H0, hg, hk⟩ => ⟨H0, hg, r0, hv, hk⟩)
def c_value_depth (C : Ctx) (p_v : T_api_Value) (p_most : Int) (K : Int → Heap → Prop) (H : Heap) : Prop :=
  Spec Tryd.prog C 22 [.agg (T_api_Value.c p_v).toArray, .int .i64 p_most] H (fun v H2 => ∃ (r0 : Int), v = .int .i64 r0 ∧ K r0 H2)
theorem c_value_depth.mono {C : Ctx} {p_v : T_api_Value} {p_most : Int} {K K2 : Int → Heap → Prop} {H : Heap} (h : c_value_depth C p_v p_most K H) (hk : ∀ r0 H2, K r0 H2 → K2 r0 H2) : c_value_depth C p_v p_most K2 H :=
  Spec.mono h fun _ H2 ⟨r0, hv, h2⟩ => ⟨r0, hv, hk r0 H2 h2⟩
theorem c_value_depth.gh {C : Ctx} {p_v : T_api_Value} {p_most : Int} {K : Int → Heap → Prop} {H : Heap} (h : c_value_depth C p_v p_most (fun r0 H2 => ∃ H0, Gh C H2 H0 ∧ K r0 H0) H) : c_value_depth C p_v p_most K H :=
  Spec.gh (Spec.mono h fun _ H2 ⟨r0, hv, H0, hg, hk⟩ => ⟨H0, hg, r0, hv, hk⟩)
def c_value_item_look (C : Ctx) (p_v : T_api_Value) (K : Bool → Bool → Heap → Prop) (H : Heap) : Prop :=
  Spec Tryd.prog C 23 [.agg (T_api_Value.c p_v).toArray] H (fun v H2 => ∃ (r0 : Bool) (r1 : Bool), v = .tuple #[.bool r0, .bool r1] ∧ K r0 r1 H2)
theorem c_value_item_look.mono {C : Ctx} {p_v : T_api_Value} {K K2 : Bool → Bool → Heap → Prop} {H : Heap} (h : c_value_item_look C p_v K H) (hk : ∀ r0 r1 H2, K r0 r1 H2 → K2 r0 r1 H2) : c_value_item_look C p_v K2 H :=
  Spec.mono h fun _ H2 ⟨r0, r1, hv, h2⟩ => ⟨r0, r1, hv, hk r0 r1 H2 h2⟩
theorem c_value_item_look.gh {C : Ctx} {p_v : T_api_Value} {K : Bool → Bool → Heap → Prop} {H : Heap} (h : c_value_item_look C p_v (fun r0 r1 H2 => ∃ H0, Gh C H2 H0 ∧ K r0 r1 H0) H) : c_value_item_look C p_v K H :=
  Spec.gh (Spec.mono h fun _ H2 ⟨r0, r1, hv, H0, hg, hk⟩ => ⟨H0, hg, r0, r1, hv, hk⟩)
def c_value_Show_1 (C : Ctx) (p_l : Sl) (v0 : Nat × Nat) (v1 : Nat × Nat) (K : Heap → Prop) (H : Heap) : Prop :=
  Spec Tryd.prog C 24 [slv p_l, pv (some v0), pv (some v1)] H (fun v H2 => v = .tuple #[] ∧ K H2)
theorem c_value_Show_1.mono {C : Ctx} {p_l : Sl} {v0 : Nat × Nat} {v1 : Nat × Nat} {K K2 : Heap → Prop} {H : Heap} (h : c_value_Show_1 C p_l v0 v1 K H) (hk : ∀  H2, K  H2 → K2  H2) : c_value_Show_1 C p_l v0 v1 K2 H :=
  Spec.mono h fun _ H2 ⟨hv, h2⟩ => ⟨hv, hk H2 h2⟩
theorem c_value_Show_1.gh {C : Ctx} {p_l : Sl} {v0 : Nat × Nat} {v1 : Nat × Nat} {K : Heap → Prop} {H : Heap} (h : c_value_Show_1 C p_l v0 v1 (fun  H2 => ∃ H0, Gh C H2 H0 ∧ K  H0) H) : c_value_Show_1 C p_l v0 v1 K H :=
  Spec.gh (Spec.mono h fun _ H2 ⟨hv, H0, hg, hk⟩ => ⟨H0, hg, hv, hk⟩)
def c_strings_Builder_WriteByte (C : Ctx) (p_b : Option (Nat × Nat)) (p_c : Int) (K : Value → Heap → Prop) (H : Heap) : Prop :=
  Spec Tryd.prog C 25 [pv p_b, .int .u8 p_c] H (fun v H2 => ∃ (r0 : Value), v = r0 ∧ K r0 H2)
theorem c_strings_Builder_WriteByte.mono {C : Ctx} {p_b : Option (Nat × Nat)} {p_c : Int} {K K2 : Value → Heap → Prop} {H : Heap} (h : c_strings_Builder_WriteByte C p_b p_c K H) (hk : ∀ r0 H2, K r0 H2 → K2 r0 H2) : c_strings_Builder_WriteByte C p_b p_c K2 H :=
  Spec.mono h fun _ H2 ⟨r0, hv, h2⟩ => ⟨r0, hv, hk r0 H2 h2⟩
theorem c_strings_Builder_WriteByte.gh {C : Ctx} {p_b : Option (Nat × Nat)} {p_c : Int} {K : Value → Heap → Prop} {H : Heap} (h : c_strings_Builder_WriteByte C p_b p_c (fun r0 H2 => ∃ H0, Gh C H2 H0 ∧ K r0 H0) H) : c_strings_Builder_WriteByte C p_b p_c K H :=
  Spec.gh (Spec.mono h fun _ H2 ⟨r0, hv, H0, hg, hk⟩ => ⟨H0, hg, r0, hv, hk⟩)
def c_strings_Builder_WriteString (C : Ctx) (p_b : Option (Nat × Nat)) (p_s : Str) (K : Int → Value → Heap → Prop) (H : Heap) : Prop :=
  Spec Tryd.prog C 26 [pv p_b, sv p_s] H (fun v H2 => ∃ (r0 : Int) (r1 : Value), v = .tuple #[.int .i64 r0, r1] ∧ K r0 r1 H2)
theorem c_strings_Builder_WriteString.mono {C : Ctx} {p_b : Option (Nat × Nat)} {p_s : Str} {K K2 : Int → Value → Heap → Prop} {H : Heap} (h : c_strings_Builder_WriteString C p_b p_s K H) (hk : ∀ r0 r1 H2, K r0 r1 H2 → K2 r0 r1 H2) : c_strings_Builder_WriteString C p_b p_s K2 H :=
  Spec.mono h fun _ H2 ⟨r0, r1, hv, h2⟩ => ⟨r0, r1, hv, hk r0 r1 H2 h2⟩
theorem c_strings_Builder_WriteString.gh {C : Ctx} {p_b : Option (Nat × Nat)} {p_s : Str} {K : Int → Value → Heap → Prop} {H : Heap} (h : c_strings_Builder_WriteString C p_b p_s (fun r0 r1 H2 => ∃ H0, Gh C H2 H0 ∧ K r0 r1 H0) H) : c_strings_Builder_WriteString C p_b p_s K H :=
  Spec.gh (Spec.mono h fun _ H2 ⟨r0, r1, hv, H0, hg, hk⟩ => ⟨H0, hg, r0, r1, hv, hk⟩)
def c_value_Show_2 (C : Ctx) (p_v : T_api_Value) (v0 : Nat × Nat) (v1 : Nat × Nat) (K : Heap → Prop) (H : Heap) : Prop :=
  Spec Tryd.prog C 27 [.agg (T_api_Value.c p_v).toArray, pv (some v0), pv (some v1)] H (fun v H2 => v = .tuple #[] ∧ K H2)
theorem c_value_Show_2.mono {C : Ctx} {p_v : T_api_Value} {v0 : Nat × Nat} {v1 : Nat × Nat} {K K2 : Heap → Prop} {H : Heap} (h : c_value_Show_2 C p_v v0 v1 K H) (hk : ∀  H2, K  H2 → K2  H2) : c_value_Show_2 C p_v v0 v1 K2 H :=
  Spec.mono h fun _ H2 ⟨hv, h2⟩ => ⟨hv, hk H2 h2⟩
theorem c_value_Show_2.gh {C : Ctx} {p_v : T_api_Value} {v0 : Nat × Nat} {v1 : Nat × Nat} {K : Heap → Prop} {H : Heap} (h : c_value_Show_2 C p_v v0 v1 (fun  H2 => ∃ H0, Gh C H2 H0 ∧ K  H0) H) : c_value_Show_2 C p_v v0 v1 K H :=
  Spec.gh (Spec.mono h fun _ H2 ⟨hv, H0, hg, hk⟩ => ⟨H0, hg, hv, hk⟩)
def c_strconv_FormatBool (C : Ctx) (p_b : Bool) (K : Str → Heap → Prop) (H : Heap) : Prop :=
  Spec Tryd.prog C 28 [.bool p_b] H (fun v H2 => ∃ (r0 : Str), v = sv r0 ∧ K r0 H2)
theorem c_strconv_FormatBool.mono {C : Ctx} {p_b : Bool} {K K2 : Str → Heap → Prop} {H : Heap} (h : c_strconv_FormatBool C p_b K H) (hk : ∀ r0 H2, K r0 H2 → K2 r0 H2) : c_strconv_FormatBool C p_b K2 H :=
  Spec.mono h fun _ H2 ⟨r0, hv, h2⟩ => ⟨r0, hv, hk r0 H2 h2⟩
theorem c_strconv_FormatBool.gh {C : Ctx} {p_b : Bool} {K : Str → Heap → Prop} {H : Heap} (h : c_strconv_FormatBool C p_b (fun r0 H2 => ∃ H0, Gh C H2 H0 ∧ K r0 H0) H) : c_strconv_FormatBool C p_b K H :=
  Spec.gh (Spec.mono h fun _ H2 ⟨r0, hv, H0, hg, hk⟩ => ⟨H0, hg, r0, hv, hk⟩)
def c_strconv_FormatInt (C : Ctx) (p_i : Int) (p_base : Int) (K : Str → Heap → Prop) (H : Heap) : Prop :=
  Spec Tryd.prog C 29 [.int .i64 p_i, .int .i64 p_base] H (fun v H2 => ∃ (r0 : Str), v = sv r0 ∧ K r0 H2)
theorem c_strconv_FormatInt.mono {C : Ctx} {p_i : Int} {p_base : Int} {K K2 : Str → Heap → Prop} {H : Heap} (h : c_strconv_FormatInt C p_i p_base K H) (hk : ∀ r0 H2, K r0 H2 → K2 r0 H2) : c_strconv_FormatInt C p_i p_base K2 H :=
  Spec.mono h fun _ H2 ⟨r0, hv, h2⟩ => ⟨r0, hv, hk r0 H2 h2⟩
theorem c_strconv_FormatInt.gh {C : Ctx} {p_i : Int} {p_base : Int} {K : Str → Heap → Prop} {H : Heap} (h : c_strconv_FormatInt C p_i p_base (fun r0 H2 => ∃ H0, Gh C H2 H0 ∧ K r0 H0) H) : c_strconv_FormatInt C p_i p_base K H :=
  Spec.gh (Spec.mono h fun _ H2 ⟨r0, hv, H0, hg, hk⟩ => ⟨H0, hg, r0, hv, hk⟩)
def c_value_quote (C : Ctx) (p_b : Option (Nat × Nat)) (p_s : Str) (K : Heap → Prop) (H : Heap) : Prop :=
  Spec Tryd.prog C 30 [pv p_b, sv p_s] H (fun v H2 => v = .tuple #[] ∧ K H2)
theorem c_value_quote.mono {C : Ctx} {p_b : Option (Nat × Nat)} {p_s : Str} {K K2 : Heap → Prop} {H : Heap} (h : c_value_quote C p_b p_s K H) (hk : ∀  H2, K  H2 → K2  H2) : c_value_quote C p_b p_s K2 H :=
  Spec.mono h fun _ H2 ⟨hv, h2⟩ => ⟨hv, hk H2 h2⟩
theorem c_value_quote.gh {C : Ctx} {p_b : Option (Nat × Nat)} {p_s : Str} {K : Heap → Prop} {H : Heap} (h : c_value_quote C p_b p_s (fun  H2 => ∃ H0, Gh C H2 H0 ∧ K  H0) H) : c_value_quote C p_b p_s K H :=
  Spec.gh (Spec.mono h fun _ H2 ⟨hv, H0, hg, hk⟩ => ⟨H0, hg, hv, hk⟩)
def c_strings_Builder_String (C : Ctx) (p_b : Option (Nat × Nat)) (K : Str → Heap → Prop) (H : Heap) : Prop :=
  Spec Tryd.prog C 31 [pv p_b] H (fun v H2 => ∃ (r0 : Str), v = sv r0 ∧ K r0 H2)
theorem c_strings_Builder_String.mono {C : Ctx} {p_b : Option (Nat × Nat)} {K K2 : Str → Heap → Prop} {H : Heap} (h : c_strings_Builder_String C p_b K H) (hk : ∀ r0 H2, K r0 H2 → K2 r0 H2) : c_strings_Builder_String C p_b K2 H :=
  Spec.mono h fun _ H2 ⟨r0, hv, h2⟩ => ⟨r0, hv, hk r0 H2 h2⟩
theorem c_strings_Builder_String.gh {C : Ctx} {p_b : Option (Nat × Nat)} {K : Str → Heap → Prop} {H : Heap} (h : c_strings_Builder_String C p_b (fun r0 H2 => ∃ H0, Gh C H2 H0 ∧ K r0 H0) H) : c_strings_Builder_String C p_b K H :=
  Spec.gh (Spec.mono h fun _ H2 ⟨r0, hv, H0, hg, hk⟩ => ⟨H0, hg, r0, hv, hk⟩)
def c_law02_weight (C : Ctx) (p_v : T_api_Value) (p_most : Int) (K : Int → Heap → Prop) (H : Heap) : Prop :=
  Spec Tryd.prog C 32 [.agg (T_api_Value.c p_v).toArray, .int .i64 p_most] H (fun v H2 => ∃ (r0 : Int), v = .int .i64 r0 ∧ K r0 H2)
theorem c_law02_weight.mono {C : Ctx} {p_v : T_api_Value} {p_most : Int} {K K2 : Int → Heap → Prop} {H : Heap} (h : c_law02_weight C p_v p_most K H) (hk : ∀ r0 H2, K r0 H2 → K2 r0 H2) : c_law02_weight C p_v p_most K2 H :=
  Spec.mono h fun _ H2 ⟨r0, hv, h2⟩ => ⟨r0, hv, hk r0 H2 h2⟩
theorem c_law02_weight.gh {C : Ctx} {p_v : T_api_Value} {p_most : Int} {K : Int → Heap → Prop} {H : Heap} (h : c_law02_weight C p_v p_most (fun r0 H2 => ∃ H0, Gh C H2 H0 ∧ K r0 H0) H) : c_law02_weight C p_v p_most K H :=
  Spec.gh (Spec.mono h fun _ H2 ⟨r0, hv, H0, hg, hk⟩ => ⟨H0, hg, r0, hv, hk⟩)
def c_value_may (C : Ctx) (p_l : Sl) (K : Bool → Heap → Prop) (H : Heap) : Prop :=
  Spec Tryd.prog C 33 [slv p_l] H (fun v H2 => ∃ (r0 : Bool), v = .bool r0 ∧ K r0 H2)
theorem c_value_may.mono {C : Ctx} {p_l : Sl} {K K2 : Bool → Heap → Prop} {H : Heap} (h : c_value_may C p_l K H) (hk : ∀ r0 H2, K r0 H2 → K2 r0 H2) : c_value_may C p_l K2 H :=
  Spec.mono h fun _ H2 ⟨r0, hv, h2⟩ => ⟨r0, hv, hk r0 H2 h2⟩
theorem c_value_may.gh {C : Ctx} {p_l : Sl} {K : Bool → Heap → Prop} {H : Heap} (h : c_value_may C p_l (fun r0 H2 => ∃ H0, Gh C H2 H0 ∧ K r0 H0) H) : c_value_may C p_l K H :=
  Spec.gh (Spec.mono h fun _ H2 ⟨r0, hv, H0, hg, hk⟩ => ⟨H0, hg, r0, hv, hk⟩)
def c_value_last (C : Ctx) (p_a : Bool) (p_b : Bool) (K : Int → Heap → Prop) (H : Heap) : Prop :=
  Spec Tryd.prog C 34 [.bool p_a, .bool p_b] H (fun v H2 => ∃ (r0 : Int), v = .int .i64 r0 ∧ K r0 H2)
theorem c_value_last.mono {C : Ctx} {p_a : Bool} {p_b : Bool} {K K2 : Int → Heap → Prop} {H : Heap} (h : c_value_last C p_a p_b K H) (hk : ∀ r0 H2, K r0 H2 → K2 r0 H2) : c_value_last C p_a p_b K2 H :=
  Spec.mono h fun _ H2 ⟨r0, hv, h2⟩ => ⟨r0, hv, hk r0 H2 h2⟩
theorem c_value_last.gh {C : Ctx} {p_a : Bool} {p_b : Bool} {K : Int → Heap → Prop} {H : Heap} (h : c_value_last C p_a p_b (fun r0 H2 => ∃ H0, Gh C H2 H0 ∧ K r0 H0) H) : c_value_last C p_a p_b K H :=
  Spec.gh (Spec.mono h fun _ H2 ⟨r0, hv, H0, hg, hk⟩ => ⟨H0, hg, r0, hv, hk⟩)
def c_value_rows (C : Ctx) (p_a : Sl) (p_b : Sl) (K : Int → Heap → Prop) (H : Heap) : Prop :=
  Spec Tryd.prog C 35 [slv p_a, slv p_b] H (fun v H2 => ∃ (r0 : Int), v = .int .i64 r0 ∧ K r0 H2)
theorem c_value_rows.mono {C : Ctx} {p_a : Sl} {p_b : Sl} {K K2 : Int → Heap → Prop} {H : Heap} (h : c_value_rows C p_a p_b K H) (hk : ∀ r0 H2, K r0 H2 → K2 r0 H2) : c_value_rows C p_a p_b K2 H :=
  Spec.mono h fun _ H2 ⟨r0, hv, h2⟩ => ⟨r0, hv, hk r0 H2 h2⟩
theorem c_value_rows.gh {C : Ctx} {p_a : Sl} {p_b : Sl} {K : Int → Heap → Prop} {H : Heap} (h : c_value_rows C p_a p_b (fun r0 H2 => ∃ H0, Gh C H2 H0 ∧ K r0 H0) H) : c_value_rows C p_a p_b K H :=
  Spec.gh (Spec.mono h fun _ H2 ⟨r0, hv, H0, hg, hk⟩ => ⟨H0, hg, r0, hv, hk⟩)
def c_value_own (C : Ctx) (p_l : Sl) (K : Sl → Heap → Prop) (H : Heap) : Prop :=
  Spec Tryd.prog C 36 [slv p_l] H (fun v H2 => ∃ (r0 : Sl), v = slv r0 ∧ K r0 H2)
theorem c_value_own.mono {C : Ctx} {p_l : Sl} {K K2 : Sl → Heap → Prop} {H : Heap} (h : c_value_own C p_l K H) (hk : ∀ r0 H2, K r0 H2 → K2 r0 H2) : c_value_own C p_l K2 H :=
  Spec.mono h fun _ H2 ⟨r0, hv, h2⟩ => ⟨r0, hv, hk r0 H2 h2⟩
theorem c_value_own.gh {C : Ctx} {p_l : Sl} {K : Sl → Heap → Prop} {H : Heap} (h : c_value_own C p_l (fun r0 H2 => ∃ H0, Gh C H2 H0 ∧ K r0 H0) H) : c_value_own C p_l K H :=
  Spec.gh (Spec.mono h fun _ H2 ⟨r0, hv, H0, hg, hk⟩ => ⟨H0, hg, r0, hv, hk⟩)
def c_slices_SortStableFunc_api_Value_api_Value (C : Ctx) (p_x : Sl) (p_cmp : Value) (K : Heap → Prop) (H : Heap) : Prop :=
  Spec Tryd.prog C 37 [slv p_x, p_cmp] H (fun v H2 => v = .tuple #[] ∧ K H2)
theorem c_slices_SortStableFunc_api_Value_api_Value.mono {C : Ctx} {p_x : Sl} {p_cmp : Value} {K K2 : Heap → Prop} {H : Heap} (h : c_slices_SortStableFunc_api_Value_api_Value C p_x p_cmp K H) (hk : ∀  H2, K  H2 → K2  H2) : c_slices_SortStableFunc_api_Value_api_Value C p_x p_cmp K2 H :=
  Spec.mono h fun _ H2 ⟨hv, h2⟩ => ⟨hv, hk H2 h2⟩
theorem c_slices_SortStableFunc_api_Value_api_Value.gh {C : Ctx} {p_x : Sl} {p_cmp : Value} {K : Heap → Prop} {H : Heap} (h : c_slices_SortStableFunc_api_Value_api_Value C p_x p_cmp (fun  H2 => ∃ H0, Gh C H2 H0 ∧ K  H0) H) : c_slices_SortStableFunc_api_Value_api_Value C p_x p_cmp K H :=
  Spec.gh (Spec.mono h fun _ H2 ⟨hv, H0, hg, hk⟩ => ⟨H0, hg, hv, hk⟩)
def c_slices_CompactFunc_api_Value_api_Value (C : Ctx) (p_s : Sl) (p_eq : Value) (K : Sl → Heap → Prop) (H : Heap) : Prop :=
  Spec Tryd.prog C 38 [slv p_s, p_eq] H (fun v H2 => ∃ (r0 : Sl), v = slv r0 ∧ K r0 H2)
theorem c_slices_CompactFunc_api_Value_api_Value.mono {C : Ctx} {p_s : Sl} {p_eq : Value} {K K2 : Sl → Heap → Prop} {H : Heap} (h : c_slices_CompactFunc_api_Value_api_Value C p_s p_eq K H) (hk : ∀ r0 H2, K r0 H2 → K2 r0 H2) : c_slices_CompactFunc_api_Value_api_Value C p_s p_eq K2 H :=
  Spec.mono h fun _ H2 ⟨r0, hv, h2⟩ => ⟨r0, hv, hk r0 H2 h2⟩
theorem c_slices_CompactFunc_api_Value_api_Value.gh {C : Ctx} {p_s : Sl} {p_eq : Value} {K : Sl → Heap → Prop} {H : Heap} (h : c_slices_CompactFunc_api_Value_api_Value C p_s p_eq (fun r0 H2 => ∃ H0, Gh C H2 H0 ∧ K r0 H0) H) : c_slices_CompactFunc_api_Value_api_Value C p_s p_eq K H :=
  Spec.gh (Spec.mono h fun _ H2 ⟨r0, hv, H0, hg, hk⟩ => ⟨H0, hg, r0, hv, hk⟩)
def c_value_Sort_1 (C : Ctx) (p_a : Sl) (p_b : Sl) (K : Bool → Heap → Prop) (H : Heap) : Prop :=
  Spec Tryd.prog C 39 [slv p_a, slv p_b] H (fun v H2 => ∃ (r0 : Bool), v = .bool r0 ∧ K r0 H2)
theorem c_value_Sort_1.mono {C : Ctx} {p_a : Sl} {p_b : Sl} {K K2 : Bool → Heap → Prop} {H : Heap} (h : c_value_Sort_1 C p_a p_b K H) (hk : ∀ r0 H2, K r0 H2 → K2 r0 H2) : c_value_Sort_1 C p_a p_b K2 H :=
  Spec.mono h fun _ H2 ⟨r0, hv, h2⟩ => ⟨r0, hv, hk r0 H2 h2⟩
theorem c_value_Sort_1.gh {C : Ctx} {p_a : Sl} {p_b : Sl} {K : Bool → Heap → Prop} {H : Heap} (h : c_value_Sort_1 C p_a p_b (fun r0 H2 => ∃ H0, Gh C H2 H0 ∧ K r0 H0) H) : c_value_Sort_1 C p_a p_b K H :=
  Spec.gh (Spec.mono h fun _ H2 ⟨r0, hv, H0, hg, hk⟩ => ⟨H0, hg, r0, hv, hk⟩)
def c_value_number (C : Ctx) (p_s : Str) (K : Int → Bool → Heap → Prop) (H : Heap) : Prop :=
  Spec Tryd.prog C 40 [sv p_s] H (fun v H2 => ∃ (r0 : Int) (r1 : Bool), v = .tuple #[.int .i64 r0, .bool r1] ∧ K r0 r1 H2)
theorem c_value_number.mono {C : Ctx} {p_s : Str} {K K2 : Int → Bool → Heap → Prop} {H : Heap} (h : c_value_number C p_s K H) (hk : ∀ r0 r1 H2, K r0 r1 H2 → K2 r0 r1 H2) : c_value_number C p_s K2 H :=
  Spec.mono h fun _ H2 ⟨r0, r1, hv, h2⟩ => ⟨r0, r1, hv, hk r0 r1 H2 h2⟩
theorem c_value_number.gh {C : Ctx} {p_s : Str} {K : Int → Bool → Heap → Prop} {H : Heap} (h : c_value_number C p_s (fun r0 r1 H2 => ∃ H0, Gh C H2 H0 ∧ K r0 r1 H0) H) : c_value_number C p_s K H :=
  Spec.gh (Spec.mono h fun _ H2 ⟨r0, r1, hv, H0, hg, hk⟩ => ⟨H0, hg, r0, r1, hv, hk⟩)
def c_strings_Cut (C : Ctx) (p_s : Str) (p_sep : Str) (K : Str → Str → Bool → Heap → Prop) (H : Heap) : Prop :=
  Spec Tryd.prog C 41 [sv p_s, sv p_sep] H (fun v H2 => ∃ (r0 : Str) (r1 : Str) (r2 : Bool), v = .tuple #[sv r0, sv r1, .bool r2] ∧ K r0 r1 r2 H2)
theorem c_strings_Cut.mono {C : Ctx} {p_s : Str} {p_sep : Str} {K K2 : Str → Str → Bool → Heap → Prop} {H : Heap} (h : c_strings_Cut C p_s p_sep K H) (hk : ∀ r0 r1 r2 H2, K r0 r1 r2 H2 → K2 r0 r1 r2 H2) : c_strings_Cut C p_s p_sep K2 H :=
  Spec.mono h fun _ H2 ⟨r0, r1, r2, hv, h2⟩ => ⟨r0, r1, r2, hv, hk r0 r1 r2 H2 h2⟩
theorem c_strings_Cut.gh {C : Ctx} {p_s : Str} {p_sep : Str} {K : Str → Str → Bool → Heap → Prop} {H : Heap} (h : c_strings_Cut C p_s p_sep (fun r0 r1 r2 H2 => ∃ H0, Gh C H2 H0 ∧ K r0 r1 r2 H0) H) : c_strings_Cut C p_s p_sep K H :=
  Spec.gh (Spec.mono h fun _ H2 ⟨r0, r1, r2, hv, H0, hg, hk⟩ => ⟨H0, hg, r0, r1, r2, hv, hk⟩)
def c_value_name (C : Ctx) (p_s : Str) (K : Bool → Heap → Prop) (H : Heap) : Prop :=
  Spec Tryd.prog C 42 [sv p_s] H (fun v H2 => ∃ (r0 : Bool), v = .bool r0 ∧ K r0 H2)
theorem c_value_name.mono {C : Ctx} {p_s : Str} {K K2 : Bool → Heap → Prop} {H : Heap} (h : c_value_name C p_s K H) (hk : ∀ r0 H2, K r0 H2 → K2 r0 H2) : c_value_name C p_s K2 H :=
  Spec.mono h fun _ H2 ⟨r0, hv, h2⟩ => ⟨r0, hv, hk r0 H2 h2⟩
theorem c_value_name.gh {C : Ctx} {p_s : Str} {K : Bool → Heap → Prop} {H : Heap} (h : c_value_name C p_s (fun r0 H2 => ∃ H0, Gh C H2 H0 ∧ K r0 H0) H) : c_value_name C p_s K H :=
  Spec.gh (Spec.mono h fun _ H2 ⟨r0, hv, H0, hg, hk⟩ => ⟨H0, hg, r0, hv, hk⟩)
def c_strings_Builder_copyCheck (C : Ctx) (p_b : Option (Nat × Nat)) (K : Heap → Prop) (H : Heap) : Prop :=
  Spec Tryd.prog C 43 [pv p_b] H (fun v H2 => v = .tuple #[] ∧ K H2)
theorem c_strings_Builder_copyCheck.mono {C : Ctx} {p_b : Option (Nat × Nat)} {K K2 : Heap → Prop} {H : Heap} (h : c_strings_Builder_copyCheck C p_b K H) (hk : ∀  H2, K  H2 → K2  H2) : c_strings_Builder_copyCheck C p_b K2 H :=
  Spec.mono h fun _ H2 ⟨hv, h2⟩ => ⟨hv, hk H2 h2⟩
theorem c_strings_Builder_copyCheck.gh {C : Ctx} {p_b : Option (Nat × Nat)} {K : Heap → Prop} {H : Heap} (h : c_strings_Builder_copyCheck C p_b (fun  H2 => ∃ H0, Gh C H2 H0 ∧ K  H0) H) : c_strings_Builder_copyCheck C p_b K H :=
  Spec.gh (Spec.mono h fun _ H2 ⟨hv, H0, hg, hk⟩ => ⟨H0, hg, hv, hk⟩)
def c_internal_strconv_FormatBool (C : Ctx) (p_b : Bool) (K : Str → Heap → Prop) (H : Heap) : Prop :=
  Spec Tryd.prog C 44 [.bool p_b] H (fun v H2 => ∃ (r0 : Str), v = sv r0 ∧ K r0 H2)
theorem c_internal_strconv_FormatBool.mono {C : Ctx} {p_b : Bool} {K K2 : Str → Heap → Prop} {H : Heap} (h : c_internal_strconv_FormatBool C p_b K H) (hk : ∀ r0 H2, K r0 H2 → K2 r0 H2) : c_internal_strconv_FormatBool C p_b K2 H :=
  Spec.mono h fun _ H2 ⟨r0, hv, h2⟩ => ⟨r0, hv, hk r0 H2 h2⟩
theorem c_internal_strconv_FormatBool.gh {C : Ctx} {p_b : Bool} {K : Str → Heap → Prop} {H : Heap} (h : c_internal_strconv_FormatBool C p_b (fun r0 H2 => ∃ H0, Gh C H2 H0 ∧ K r0 H0) H) : c_internal_strconv_FormatBool C p_b K H :=
  Spec.gh (Spec.mono h fun _ H2 ⟨r0, hv, H0, hg, hk⟩ => ⟨H0, hg, r0, hv, hk⟩)
def c_slices_ContainsFunc_api_Value_api_Value (C : Ctx) (p_s : Sl) (p_f : Value) (K : Bool → Heap → Prop) (H : Heap) : Prop :=
  Spec Tryd.prog C 46 [slv p_s, p_f] H (fun v H2 => ∃ (r0 : Bool), v = .bool r0 ∧ K r0 H2)
theorem c_slices_ContainsFunc_api_Value_api_Value.mono {C : Ctx} {p_s : Sl} {p_f : Value} {K K2 : Bool → Heap → Prop} {H : Heap} (h : c_slices_ContainsFunc_api_Value_api_Value C p_s p_f K H) (hk : ∀ r0 H2, K r0 H2 → K2 r0 H2) : c_slices_ContainsFunc_api_Value_api_Value C p_s p_f K2 H :=
  Spec.mono h fun _ H2 ⟨r0, hv, h2⟩ => ⟨r0, hv, hk r0 H2 h2⟩
theorem c_slices_ContainsFunc_api_Value_api_Value.gh {C : Ctx} {p_s : Sl} {p_f : Value} {K : Bool → Heap → Prop} {H : Heap} (h : c_slices_ContainsFunc_api_Value_api_Value C p_s p_f (fun r0 H2 => ∃ H0, Gh C H2 H0 ∧ K r0 H0) H) : c_slices_ContainsFunc_api_Value_api_Value C p_s p_f K H :=
  Spec.gh (Spec.mono h fun _ H2 ⟨r0, hv, H0, hg, hk⟩ => ⟨H0, hg, r0, hv, hk⟩)
def c_value_may_1 (C : Ctx) (p_v : T_api_Value) (K : Bool → Heap → Prop) (H : Heap) : Prop :=
  Spec Tryd.prog C 47 [.agg (T_api_Value.c p_v).toArray] H (fun v H2 => ∃ (r0 : Bool), v = .bool r0 ∧ K r0 H2)
theorem c_value_may_1.mono {C : Ctx} {p_v : T_api_Value} {K K2 : Bool → Heap → Prop} {H : Heap} (h : c_value_may_1 C p_v K H) (hk : ∀ r0 H2, K r0 H2 → K2 r0 H2) : c_value_may_1 C p_v K2 H :=
  Spec.mono h fun _ H2 ⟨r0, hv, h2⟩ => ⟨r0, hv, hk r0 H2 h2⟩
theorem c_value_may_1.gh {C : Ctx} {p_v : T_api_Value} {K : Bool → Heap → Prop} {H : Heap} (h : c_value_may_1 C p_v (fun r0 H2 => ∃ H0, Gh C H2 H0 ∧ K r0 H0) H) : c_value_may_1 C p_v K H :=
  Spec.gh (Spec.mono h fun _ H2 ⟨r0, hv, H0, hg, hk⟩ => ⟨H0, hg, r0, hv, hk⟩)
def c_slices_CompareFunc_api_Value_api_Value_api_Value_api_Value (C : Ctx) (p_s1 : Sl) (p_s2 : Sl) (p_cmp : Value) (K : Int → Heap → Prop) (H : Heap) : Prop :=
  Spec Tryd.prog C 48 [slv p_s1, slv p_s2, p_cmp] H (fun v H2 => ∃ (r0 : Int), v = .int .i64 r0 ∧ K r0 H2)
theorem c_slices_CompareFunc_api_Value_api_Value_api_Value_api_Value.mono {C : Ctx} {p_s1 : Sl} {p_s2 : Sl} {p_cmp : Value} {K K2 : Int → Heap → Prop} {H : Heap} (h : c_slices_CompareFunc_api_Value_api_Value_api_Value_api_Value C p_s1 p_s2 p_cmp K H) (hk : ∀ r0 H2, K r0 H2 → K2 r0 H2) : c_slices_CompareFunc_api_Value_api_Value_api_Value_api_Value C p_s1 p_s2 p_cmp K2 H :=
  Spec.mono h fun _ H2 ⟨r0, hv, h2⟩ => ⟨r0, hv, hk r0 H2 h2⟩
theorem c_slices_CompareFunc_api_Value_api_Value_api_Value_api_Value.gh {C : Ctx} {p_s1 : Sl} {p_s2 : Sl} {p_cmp : Value} {K : Int → Heap → Prop} {H : Heap} (h : c_slices_CompareFunc_api_Value_api_Value_api_Value_api_Value C p_s1 p_s2 p_cmp (fun r0 H2 => ∃ H0, Gh C H2 H0 ∧ K r0 H0) H) : c_slices_CompareFunc_api_Value_api_Value_api_Value_api_Value C p_s1 p_s2 p_cmp K H :=
  Spec.gh (Spec.mono h fun _ H2 ⟨r0, hv, H0, hg, hk⟩ => ⟨H0, hg, r0, hv, hk⟩)
def c_value_rows_1 (C : Ctx) (p_x : T_api_Value) (p_y : T_api_Value) (K : Int → Heap → Prop) (H : Heap) : Prop :=
  Spec Tryd.prog C 49 [.agg (T_api_Value.c p_x).toArray, .agg (T_api_Value.c p_y).toArray] H (fun v H2 => ∃ (r0 : Int), v = .int .i64 r0 ∧ K r0 H2)
theorem c_value_rows_1.mono {C : Ctx} {p_x : T_api_Value} {p_y : T_api_Value} {K K2 : Int → Heap → Prop} {H : Heap} (h : c_value_rows_1 C p_x p_y K H) (hk : ∀ r0 H2, K r0 H2 → K2 r0 H2) : c_value_rows_1 C p_x p_y K2 H :=
  Spec.mono h fun _ H2 ⟨r0, hv, h2⟩ => ⟨r0, hv, hk r0 H2 h2⟩
theorem c_value_rows_1.gh {C : Ctx} {p_x : T_api_Value} {p_y : T_api_Value} {K : Int → Heap → Prop} {H : Heap} (h : c_value_rows_1 C p_x p_y (fun r0 H2 => ∃ H0, Gh C H2 H0 ∧ K r0 H0) H) : c_value_rows_1 C p_x p_y K H :=
  Spec.gh (Spec.mono h fun _ H2 ⟨r0, hv, H0, hg, hk⟩ => ⟨H0, hg, r0, hv, hk⟩)
def c_value_item_cmp (C : Ctx) (p_v : T_api_Value) (p_w : T_api_Value) (K : Int → Heap → Prop) (H : Heap) : Prop :=
  Spec Tryd.prog C 50 [.agg (T_api_Value.c p_v).toArray, .agg (T_api_Value.c p_w).toArray] H (fun v H2 => ∃ (r0 : Int), v = .int .i64 r0 ∧ K r0 H2)
theorem c_value_item_cmp.mono {C : Ctx} {p_v : T_api_Value} {p_w : T_api_Value} {K K2 : Int → Heap → Prop} {H : Heap} (h : c_value_item_cmp C p_v p_w K H) (hk : ∀ r0 H2, K r0 H2 → K2 r0 H2) : c_value_item_cmp C p_v p_w K2 H :=
  Spec.mono h fun _ H2 ⟨r0, hv, h2⟩ => ⟨r0, hv, hk r0 H2 h2⟩
theorem c_value_item_cmp.gh {C : Ctx} {p_v : T_api_Value} {p_w : T_api_Value} {K : Int → Heap → Prop} {H : Heap} (h : c_value_item_cmp C p_v p_w (fun r0 H2 => ∃ H0, Gh C H2 H0 ∧ K r0 H0) H) : c_value_item_cmp C p_v p_w K H :=
  Spec.gh (Spec.mono h fun _ H2 ⟨r0, hv, H0, hg, hk⟩ => ⟨H0, hg, r0, hv, hk⟩)
def c_slices_Clone_api_Value_api_Value (C : Ctx) (p_s : Sl) (K : Sl → Heap → Prop) (H : Heap) : Prop :=
  Spec Tryd.prog C 51 [slv p_s] H (fun v H2 => ∃ (r0 : Sl), v = slv r0 ∧ K r0 H2)
theorem c_slices_Clone_api_Value_api_Value.mono {C : Ctx} {p_s : Sl} {K K2 : Sl → Heap → Prop} {H : Heap} (h : c_slices_Clone_api_Value_api_Value C p_s K H) (hk : ∀ r0 H2, K r0 H2 → K2 r0 H2) : c_slices_Clone_api_Value_api_Value C p_s K2 H :=
  Spec.mono h fun _ H2 ⟨r0, hv, h2⟩ => ⟨r0, hv, hk r0 H2 h2⟩
theorem c_slices_Clone_api_Value_api_Value.gh {C : Ctx} {p_s : Sl} {K : Sl → Heap → Prop} {H : Heap} (h : c_slices_Clone_api_Value_api_Value C p_s (fun r0 H2 => ∃ H0, Gh C H2 H0 ∧ K r0 H0) H) : c_slices_Clone_api_Value_api_Value C p_s K H :=
  Spec.gh (Spec.mono h fun _ H2 ⟨r0, hv, H0, hg, hk⟩ => ⟨H0, hg, r0, hv, hk⟩)
def c_slices_stableCmpFunc_api_Value (C : Ctx) (p_data : Sl) (p_n : Int) (p_cmp : Value) (K : Heap → Prop) (H : Heap) : Prop :=
  Spec Tryd.prog C 52 [slv p_data, .int .i64 p_n, p_cmp] H (fun v H2 => v = .tuple #[] ∧ K H2)
theorem c_slices_stableCmpFunc_api_Value.mono {C : Ctx} {p_data : Sl} {p_n : Int} {p_cmp : Value} {K K2 : Heap → Prop} {H : Heap} (h : c_slices_stableCmpFunc_api_Value C p_data p_n p_cmp K H) (hk : ∀  H2, K  H2 → K2  H2) : c_slices_stableCmpFunc_api_Value C p_data p_n p_cmp K2 H :=
  Spec.mono h fun _ H2 ⟨hv, h2⟩ => ⟨hv, hk H2 h2⟩
theorem c_slices_stableCmpFunc_api_Value.gh {C : Ctx} {p_data : Sl} {p_n : Int} {p_cmp : Value} {K : Heap → Prop} {H : Heap} (h : c_slices_stableCmpFunc_api_Value C p_data p_n p_cmp (fun  H2 => ∃ H0, Gh C H2 H0 ∧ K  H0) H) : c_slices_stableCmpFunc_api_Value C p_data p_n p_cmp K H :=
  Spec.gh (Spec.mono h fun _ H2 ⟨hv, H0, hg, hk⟩ => ⟨H0, hg, hv, hk⟩)
def c_strings_TrimPrefix (C : Ctx) (p_s : Str) (p_prefix : Str) (K : Str → Heap → Prop) (H : Heap) : Prop :=
  Spec Tryd.prog C 53 [sv p_s, sv p_prefix] H (fun v H2 => ∃ (r0 : Str), v = sv r0 ∧ K r0 H2)
theorem c_strings_TrimPrefix.mono {C : Ctx} {p_s : Str} {p_prefix : Str} {K K2 : Str → Heap → Prop} {H : Heap} (h : c_strings_TrimPrefix C p_s p_prefix K H) (hk : ∀ r0 H2, K r0 H2 → K2 r0 H2) : c_strings_TrimPrefix C p_s p_prefix K2 H :=
  Spec.mono h fun _ H2 ⟨r0, hv, h2⟩ => ⟨r0, hv, hk r0 H2 h2⟩
theorem c_strings_TrimPrefix.gh {C : Ctx} {p_s : Str} {p_prefix : Str} {K : Str → Heap → Prop} {H : Heap} (h : c_strings_TrimPrefix C p_s p_prefix (fun r0 H2 => ∃ H0, Gh C H2 H0 ∧ K r0 H0) H) : c_strings_TrimPrefix C p_s p_prefix K H :=
  Spec.gh (Spec.mono h fun _ H2 ⟨r0, hv, H0, hg, hk⟩ => ⟨H0, hg, r0, hv, hk⟩)
def c_strings_Trim (C : Ctx) (p_s : Str) (p_cutset : Str) (K : Str → Heap → Prop) (H : Heap) : Prop :=
  Spec Tryd.prog C 54 [sv p_s, sv p_cutset] H (fun v H2 => ∃ (r0 : Str), v = sv r0 ∧ K r0 H2)
theorem c_strings_Trim.mono {C : Ctx} {p_s : Str} {p_cutset : Str} {K K2 : Str → Heap → Prop} {H : Heap} (h : c_strings_Trim C p_s p_cutset K H) (hk : ∀ r0 H2, K r0 H2 → K2 r0 H2) : c_strings_Trim C p_s p_cutset K2 H :=
  Spec.mono h fun _ H2 ⟨r0, hv, h2⟩ => ⟨r0, hv, hk r0 H2 h2⟩
theorem c_strings_Trim.gh {C : Ctx} {p_s : Str} {p_cutset : Str} {K : Str → Heap → Prop} {H : Heap} (h : c_strings_Trim C p_s p_cutset (fun r0 H2 => ∃ H0, Gh C H2 H0 ∧ K r0 H0) H) : c_strings_Trim C p_s p_cutset K H :=
  Spec.gh (Spec.mono h fun _ H2 ⟨r0, hv, H0, hg, hk⟩ => ⟨H0, hg, r0, hv, hk⟩)
def c_internal_stringslite_Cut (C : Ctx) (p_s : Str) (p_sep : Str) (K : Str → Str → Bool → Heap → Prop) (H : Heap) : Prop :=
  Spec Tryd.prog C 55 [sv p_s, sv p_sep] H (fun v H2 => ∃ (r0 : Str) (r1 : Str) (r2 : Bool), v = .tuple #[sv r0, sv r1, .bool r2] ∧ K r0 r1 r2 H2)
theorem c_internal_stringslite_Cut.mono {C : Ctx} {p_s : Str} {p_sep : Str} {K K2 : Str → Str → Bool → Heap → Prop} {H : Heap} (h : c_internal_stringslite_Cut C p_s p_sep K H) (hk : ∀ r0 r1 r2 H2, K r0 r1 r2 H2 → K2 r0 r1 r2 H2) : c_internal_stringslite_Cut C p_s p_sep K2 H :=
  Spec.mono h fun _ H2 ⟨r0, r1, r2, hv, h2⟩ => ⟨r0, r1, r2, hv, hk r0 r1 r2 H2 h2⟩
theorem c_internal_stringslite_Cut.gh {C : Ctx} {p_s : Str} {p_sep : Str} {K : Str → Str → Bool → Heap → Prop} {H : Heap} (h : c_internal_stringslite_Cut C p_s p_sep (fun r0 r1 r2 H2 => ∃ H0, Gh C H2 H0 ∧ K r0 r1 r2 H0) H) : c_internal_stringslite_Cut C p_s p_sep K H :=
  Spec.gh (Spec.mono h fun _ H2 ⟨r0, r1, r2, hv, H0, hg, hk⟩ => ⟨H0, hg, r0, r1, r2, hv, hk⟩)
def c_slices_IndexFunc_api_Value_api_Value (C : Ctx) (p_s : Sl) (p_f : Value) (K : Int → Heap → Prop) (H : Heap) : Prop :=
  Spec Tryd.prog C 61 [slv p_s, p_f] H (fun v H2 => ∃ (r0 : Int), v = .int .i64 r0 ∧ K r0 H2)
theorem c_slices_IndexFunc_api_Value_api_Value.mono {C : Ctx} {p_s : Sl} {p_f : Value} {K K2 : Int → Heap → Prop} {H : Heap} (h : c_slices_IndexFunc_api_Value_api_Value C p_s p_f K H) (hk : ∀ r0 H2, K r0 H2 → K2 r0 H2) : c_slices_IndexFunc_api_Value_api_Value C p_s p_f K2 H :=
  Spec.mono h fun _ H2 ⟨r0, hv, h2⟩ => ⟨r0, hv, hk r0 H2 h2⟩
theorem c_slices_IndexFunc_api_Value_api_Value.gh {C : Ctx} {p_s : Sl} {p_f : Value} {K : Int → Heap → Prop} {H : Heap} (h : c_slices_IndexFunc_api_Value_api_Value C p_s p_f (fun r0 H2 => ∃ H0, Gh C H2 H0 ∧ K r0 H0) H) : c_slices_IndexFunc_api_Value_api_Value C p_s p_f K H :=
  Spec.gh (Spec.mono h fun _ H2 ⟨r0, hv, H0, hg, hk⟩ => ⟨H0, hg, r0, hv, hk⟩)
def c_cmp_Compare_uint8 (C : Ctx) (p_x : Int) (p_y : Int) (K : Int → Heap → Prop) (H : Heap) : Prop :=
  Spec Tryd.prog C 62 [.int .u8 p_x, .int .u8 p_y] H (fun v H2 => ∃ (r0 : Int), v = .int .i64 r0 ∧ K r0 H2)
theorem c_cmp_Compare_uint8.mono {C : Ctx} {p_x : Int} {p_y : Int} {K K2 : Int → Heap → Prop} {H : Heap} (h : c_cmp_Compare_uint8 C p_x p_y K H) (hk : ∀ r0 H2, K r0 H2 → K2 r0 H2) : c_cmp_Compare_uint8 C p_x p_y K2 H :=
  Spec.mono h fun _ H2 ⟨r0, hv, h2⟩ => ⟨r0, hv, hk r0 H2 h2⟩
theorem c_cmp_Compare_uint8.gh {C : Ctx} {p_x : Int} {p_y : Int} {K : Int → Heap → Prop} {H : Heap} (h : c_cmp_Compare_uint8 C p_x p_y (fun r0 H2 => ∃ H0, Gh C H2 H0 ∧ K r0 H0) H) : c_cmp_Compare_uint8 C p_x p_y K H :=
  Spec.gh (Spec.mono h fun _ H2 ⟨r0, hv, H0, hg, hk⟩ => ⟨H0, hg, r0, hv, hk⟩)
def c_value_bigs (C : Ctx) (p_a : Str) (p_b : Str) (K : Int → Heap → Prop) (H : Heap) : Prop :=
  Spec Tryd.prog C 63 [sv p_a, sv p_b] H (fun v H2 => ∃ (r0 : Int), v = .int .i64 r0 ∧ K r0 H2)
theorem c_value_bigs.mono {C : Ctx} {p_a : Str} {p_b : Str} {K K2 : Int → Heap → Prop} {H : Heap} (h : c_value_bigs C p_a p_b K H) (hk : ∀ r0 H2, K r0 H2 → K2 r0 H2) : c_value_bigs C p_a p_b K2 H :=
  Spec.mono h fun _ H2 ⟨r0, hv, h2⟩ => ⟨r0, hv, hk r0 H2 h2⟩
theorem c_value_bigs.gh {C : Ctx} {p_a : Str} {p_b : Str} {K : Int → Heap → Prop} {H : Heap} (h : c_value_bigs C p_a p_b (fun r0 H2 => ∃ H0, Gh C H2 H0 ∧ K r0 H0) H) : c_value_bigs C p_a p_b K H :=
  Spec.gh (Spec.mono h fun _ H2 ⟨r0, hv, H0, hg, hk⟩ => ⟨H0, hg, r0, hv, hk⟩)
def c_cmp_Compare_string (C : Ctx) (p_x : Str) (p_y : Str) (K : Int → Heap → Prop) (H : Heap) : Prop :=
  Spec Tryd.prog C 64 [sv p_x, sv p_y] H (fun v H2 => ∃ (r0 : Int), v = .int .i64 r0 ∧ K r0 H2)
theorem c_cmp_Compare_string.mono {C : Ctx} {p_x : Str} {p_y : Str} {K K2 : Int → Heap → Prop} {H : Heap} (h : c_cmp_Compare_string C p_x p_y K H) (hk : ∀ r0 H2, K r0 H2 → K2 r0 H2) : c_cmp_Compare_string C p_x p_y K2 H :=
  Spec.mono h fun _ H2 ⟨r0, hv, h2⟩ => ⟨r0, hv, hk r0 H2 h2⟩
theorem c_cmp_Compare_string.gh {C : Ctx} {p_x : Str} {p_y : Str} {K : Int → Heap → Prop} {H : Heap} (h : c_cmp_Compare_string C p_x p_y (fun r0 H2 => ∃ H0, Gh C H2 H0 ∧ K r0 H0) H) : c_cmp_Compare_string C p_x p_y K H :=
  Spec.gh (Spec.mono h fun _ H2 ⟨r0, hv, H0, hg, hk⟩ => ⟨H0, hg, r0, hv, hk⟩)
def c_cmp_Or_int (C : Ctx) (p_vals : Sl) (K : Int → Heap → Prop) (H : Heap) : Prop :=
  Spec Tryd.prog C 65 [slv p_vals] H (fun v H2 => ∃ (r0 : Int), v = .int .i64 r0 ∧ K r0 H2)
theorem c_cmp_Or_int.mono {C : Ctx} {p_vals : Sl} {K K2 : Int → Heap → Prop} {H : Heap} (h : c_cmp_Or_int C p_vals K H) (hk : ∀ r0 H2, K r0 H2 → K2 r0 H2) : c_cmp_Or_int C p_vals K2 H :=
  Spec.mono h fun _ H2 ⟨r0, hv, h2⟩ => ⟨r0, hv, hk r0 H2 h2⟩
theorem c_cmp_Or_int.gh {C : Ctx} {p_vals : Sl} {K : Int → Heap → Prop} {H : Heap} (h : c_cmp_Or_int C p_vals (fun r0 H2 => ∃ H0, Gh C H2 H0 ∧ K r0 H0) H) : c_cmp_Or_int C p_vals K H :=
  Spec.gh (Spec.mono h fun _ H2 ⟨r0, hv, H0, hg, hk⟩ => ⟨H0, hg, r0, hv, hk⟩)
def c_cmp_Compare_int64 (C : Ctx) (p_x : Int) (p_y : Int) (K : Int → Heap → Prop) (H : Heap) : Prop :=
  Spec Tryd.prog C 66 [.int .i64 p_x, .int .i64 p_y] H (fun v H2 => ∃ (r0 : Int), v = .int .i64 r0 ∧ K r0 H2)
theorem c_cmp_Compare_int64.mono {C : Ctx} {p_x : Int} {p_y : Int} {K K2 : Int → Heap → Prop} {H : Heap} (h : c_cmp_Compare_int64 C p_x p_y K H) (hk : ∀ r0 H2, K r0 H2 → K2 r0 H2) : c_cmp_Compare_int64 C p_x p_y K2 H :=
  Spec.mono h fun _ H2 ⟨r0, hv, h2⟩ => ⟨r0, hv, hk r0 H2 h2⟩
theorem c_cmp_Compare_int64.gh {C : Ctx} {p_x : Int} {p_y : Int} {K : Int → Heap → Prop} {H : Heap} (h : c_cmp_Compare_int64 C p_x p_y (fun r0 H2 => ∃ H0, Gh C H2 H0 ∧ K r0 H0) H) : c_cmp_Compare_int64 C p_x p_y K H :=
  Spec.gh (Spec.mono h fun _ H2 ⟨r0, hv, H0, hg, hk⟩ => ⟨H0, hg, r0, hv, hk⟩)
def c_slices_insertionSortCmpFunc_api_Value (C : Ctx) (p_data : Sl) (p_a : Int) (p_b : Int) (p_cmp : Value) (K : Heap → Prop) (H : Heap) : Prop :=
  Spec Tryd.prog C 67 [slv p_data, .int .i64 p_a, .int .i64 p_b, p_cmp] H (fun v H2 => v = .tuple #[] ∧ K H2)
theorem c_slices_insertionSortCmpFunc_api_Value.mono {C : Ctx} {p_data : Sl} {p_a : Int} {p_b : Int} {p_cmp : Value} {K K2 : Heap → Prop} {H : Heap} (h : c_slices_insertionSortCmpFunc_api_Value C p_data p_a p_b p_cmp K H) (hk : ∀  H2, K  H2 → K2  H2) : c_slices_insertionSortCmpFunc_api_Value C p_data p_a p_b p_cmp K2 H :=
  Spec.mono h fun _ H2 ⟨hv, h2⟩ => ⟨hv, hk H2 h2⟩
theorem c_slices_insertionSortCmpFunc_api_Value.gh {C : Ctx} {p_data : Sl} {p_a : Int} {p_b : Int} {p_cmp : Value} {K : Heap → Prop} {H : Heap} (h : c_slices_insertionSortCmpFunc_api_Value C p_data p_a p_b p_cmp (fun  H2 => ∃ H0, Gh C H2 H0 ∧ K  H0) H) : c_slices_insertionSortCmpFunc_api_Value C p_data p_a p_b p_cmp K H :=
  Spec.gh (Spec.mono h fun _ H2 ⟨hv, H0, hg, hk⟩ => ⟨H0, hg, hv, hk⟩)
def c_slices_symMergeCmpFunc_api_Value (C : Ctx) (p_data : Sl) (p_a : Int) (p_m : Int) (p_b : Int) (p_cmp : Value) (K : Heap → Prop) (H : Heap) : Prop :=
  Spec Tryd.prog C 68 [slv p_data, .int .i64 p_a, .int .i64 p_m, .int .i64 p_b, p_cmp] H (fun v H2 => v = .tuple #[] ∧ K H2)
theorem c_slices_symMergeCmpFunc_api_Value.mono {C : Ctx} {p_data : Sl} {p_a : Int} {p_m : Int} {p_b : Int} {p_cmp : Value} {K K2 : Heap → Prop} {H : Heap} (h : c_slices_symMergeCmpFunc_api_Value C p_data p_a p_m p_b p_cmp K H) (hk : ∀  H2, K  H2 → K2  H2) : c_slices_symMergeCmpFunc_api_Value C p_data p_a p_m p_b p_cmp K2 H :=
  Spec.mono h fun _ H2 ⟨hv, h2⟩ => ⟨hv, hk H2 h2⟩
theorem c_slices_symMergeCmpFunc_api_Value.gh {C : Ctx} {p_data : Sl} {p_a : Int} {p_m : Int} {p_b : Int} {p_cmp : Value} {K : Heap → Prop} {H : Heap} (h : c_slices_symMergeCmpFunc_api_Value C p_data p_a p_m p_b p_cmp (fun  H2 => ∃ H0, Gh C H2 H0 ∧ K  H0) H) : c_slices_symMergeCmpFunc_api_Value C p_data p_a p_m p_b p_cmp K H :=
  Spec.gh (Spec.mono h fun _ H2 ⟨hv, H0, hg, hk⟩ => ⟨H0, hg, hv, hk⟩)
def c_internal_stringslite_TrimPrefix (C : Ctx) (p_s : Str) (p_prefix : Str) (K : Str → Heap → Prop) (H : Heap) : Prop :=
  Spec Tryd.prog C 69 [sv p_s, sv p_prefix] H (fun v H2 => ∃ (r0 : Str), v = sv r0 ∧ K r0 H2)
theorem c_internal_stringslite_TrimPrefix.mono {C : Ctx} {p_s : Str} {p_prefix : Str} {K K2 : Str → Heap → Prop} {H : Heap} (h : c_internal_stringslite_TrimPrefix C p_s p_prefix K H) (hk : ∀ r0 H2, K r0 H2 → K2 r0 H2) : c_internal_stringslite_TrimPrefix C p_s p_prefix K2 H :=
  Spec.mono h fun _ H2 ⟨r0, hv, h2⟩ => ⟨r0, hv, hk r0 H2 h2⟩
theorem c_internal_stringslite_TrimPrefix.gh {C : Ctx} {p_s : Str} {p_prefix : Str} {K : Str → Heap → Prop} {H : Heap} (h : c_internal_stringslite_TrimPrefix C p_s p_prefix (fun r0 H2 => ∃ H0, Gh C H2 H0 ∧ K r0 H0) H) : c_internal_stringslite_TrimPrefix C p_s p_prefix K H :=
  Spec.gh (Spec.mono h fun _ H2 ⟨r0, hv, H0, hg, hk⟩ => ⟨H0, hg, r0, hv, hk⟩)
def c_strings_trimLeftByte (C : Ctx) (p_s : Str) (p_c : Int) (K : Str → Heap → Prop) (H : Heap) : Prop :=
  Spec Tryd.prog C 70 [sv p_s, .int .u8 p_c] H (fun v H2 => ∃ (r0 : Str), v = sv r0 ∧ K r0 H2)
theorem c_strings_trimLeftByte.mono {C : Ctx} {p_s : Str} {p_c : Int} {K K2 : Str → Heap → Prop} {H : Heap} (h : c_strings_trimLeftByte C p_s p_c K H) (hk : ∀ r0 H2, K r0 H2 → K2 r0 H2) : c_strings_trimLeftByte C p_s p_c K2 H :=
  Spec.mono h fun _ H2 ⟨r0, hv, h2⟩ => ⟨r0, hv, hk r0 H2 h2⟩
theorem c_strings_trimLeftByte.gh {C : Ctx} {p_s : Str} {p_c : Int} {K : Str → Heap → Prop} {H : Heap} (h : c_strings_trimLeftByte C p_s p_c (fun r0 H2 => ∃ H0, Gh C H2 H0 ∧ K r0 H0) H) : c_strings_trimLeftByte C p_s p_c K H :=
  Spec.gh (Spec.mono h fun _ H2 ⟨r0, hv, H0, hg, hk⟩ => ⟨H0, hg, r0, hv, hk⟩)
def c_strings_trimRightByte (C : Ctx) (p_s : Str) (p_c : Int) (K : Str → Heap → Prop) (H : Heap) : Prop :=
  Spec Tryd.prog C 71 [sv p_s, .int .u8 p_c] H (fun v H2 => ∃ (r0 : Str), v = sv r0 ∧ K r0 H2)
theorem c_strings_trimRightByte.mono {C : Ctx} {p_s : Str} {p_c : Int} {K K2 : Str → Heap → Prop} {H : Heap} (h : c_strings_trimRightByte C p_s p_c K H) (hk : ∀ r0 H2, K r0 H2 → K2 r0 H2) : c_strings_trimRightByte C p_s p_c K2 H :=
  Spec.mono h fun _ H2 ⟨r0, hv, h2⟩ => ⟨r0, hv, hk r0 H2 h2⟩
theorem c_strings_trimRightByte.gh {C : Ctx} {p_s : Str} {p_c : Int} {K : Str → Heap → Prop} {H : Heap} (h : c_strings_trimRightByte C p_s p_c (fun r0 H2 => ∃ H0, Gh C H2 H0 ∧ K r0 H0) H) : c_strings_trimRightByte C p_s p_c K H :=
  Spec.gh (Spec.mono h fun _ H2 ⟨r0, hv, H0, hg, hk⟩ => ⟨H0, hg, r0, hv, hk⟩)
def c_strings_makeASCIISet (C : Ctx) (p_chars : Str) (K : List Value → Bool → Heap → Prop) (H : Heap) : Prop :=
  Spec Tryd.prog C 72 [sv p_chars] H (fun v H2 => ∃ (r0 : List Value) (r1 : Bool), v = .tuple #[.agg (List.toArray r0), .bool r1] ∧ K r0 r1 H2)
theorem c_strings_makeASCIISet.mono {C : Ctx} {p_chars : Str} {K K2 : List Value → Bool → Heap → Prop} {H : Heap} (h : c_strings_makeASCIISet C p_chars K H) (hk : ∀ r0 r1 H2, K r0 r1 H2 → K2 r0 r1 H2) : c_strings_makeASCIISet C p_chars K2 H :=
  Spec.mono h fun _ H2 ⟨r0, r1, hv, h2⟩ => ⟨r0, r1, hv, hk r0 r1 H2 h2⟩
theorem c_strings_makeASCIISet.gh {C : Ctx} {p_chars : Str} {K : List Value → Bool → Heap → Prop} {H : Heap} (h : c_strings_makeASCIISet C p_chars (fun r0 r1 H2 => ∃ H0, Gh C H2 H0 ∧ K r0 r1 H0) H) : c_strings_makeASCIISet C p_chars K H :=
  Spec.gh (Spec.mono h fun _ H2 ⟨r0, r1, hv, H0, hg, hk⟩ => ⟨H0, hg, r0, r1, hv, hk⟩)
def c_strings_trimLeftASCII (C : Ctx) (p_s : Str) (p_as : Option (Nat × Nat)) (K : Str → Heap → Prop) (H : Heap) : Prop :=
  Spec Tryd.prog C 73 [sv p_s, pv p_as] H (fun v H2 => ∃ (r0 : Str), v = sv r0 ∧ K r0 H2)
theorem c_strings_trimLeftASCII.mono {C : Ctx} {p_s : Str} {p_as : Option (Nat × Nat)} {K K2 : Str → Heap → Prop} {H : Heap} (h : c_strings_trimLeftASCII C p_s p_as K H) (hk : ∀ r0 H2, K r0 H2 → K2 r0 H2) : c_strings_trimLeftASCII C p_s p_as K2 H :=
  Spec.mono h fun _ H2 ⟨r0, hv, h2⟩ => ⟨r0, hv, hk r0 H2 h2⟩
theorem c_strings_trimLeftASCII.gh {C : Ctx} {p_s : Str} {p_as : Option (Nat × Nat)} {K : Str → Heap → Prop} {H : Heap} (h : c_strings_trimLeftASCII C p_s p_as (fun r0 H2 => ∃ H0, Gh C H2 H0 ∧ K r0 H0) H) : c_strings_trimLeftASCII C p_s p_as K H :=
  Spec.gh (Spec.mono h fun _ H2 ⟨r0, hv, H0, hg, hk⟩ => ⟨H0, hg, r0, hv, hk⟩)
def c_strings_trimRightASCII (C : Ctx) (p_s : Str) (p_as : Option (Nat × Nat)) (K : Str → Heap → Prop) (H : Heap) : Prop :=
  Spec Tryd.prog C 74 [sv p_s, pv p_as] H (fun v H2 => ∃ (r0 : Str), v = sv r0 ∧ K r0 H2)
theorem c_strings_trimRightASCII.mono {C : Ctx} {p_s : Str} {p_as : Option (Nat × Nat)} {K K2 : Str → Heap → Prop} {H : Heap} (h : c_strings_trimRightASCII C p_s p_as K H) (hk : ∀ r0 H2, K r0 H2 → K2 r0 H2) : c_strings_trimRightASCII C p_s p_as K2 H :=
  Spec.mono h fun _ H2 ⟨r0, hv, h2⟩ => ⟨r0, hv, hk r0 H2 h2⟩
theorem c_strings_trimRightASCII.gh {C : Ctx} {p_s : Str} {p_as : Option (Nat × Nat)} {K : Str → Heap → Prop} {H : Heap} (h : c_strings_trimRightASCII C p_s p_as (fun r0 H2 => ∃ H0, Gh C H2 H0 ∧ K r0 H0) H) : c_strings_trimRightASCII C p_s p_as K H :=
  Spec.gh (Spec.mono h fun _ H2 ⟨r0, hv, H0, hg, hk⟩ => ⟨H0, hg, r0, hv, hk⟩)
def c_strings_trimLeftUnicode (C : Ctx) (p_s : Str) (p_cutset : Str) (K : Str → Heap → Prop) (H : Heap) : Prop :=
  Spec Tryd.prog C 75 [sv p_s, sv p_cutset] H (fun v H2 => ∃ (r0 : Str), v = sv r0 ∧ K r0 H2)
theorem c_strings_trimLeftUnicode.mono {C : Ctx} {p_s : Str} {p_cutset : Str} {K K2 : Str → Heap → Prop} {H : Heap} (h : c_strings_trimLeftUnicode C p_s p_cutset K H) (hk : ∀ r0 H2, K r0 H2 → K2 r0 H2) : c_strings_trimLeftUnicode C p_s p_cutset K2 H :=
  Spec.mono h fun _ H2 ⟨r0, hv, h2⟩ => ⟨r0, hv, hk r0 H2 h2⟩
theorem c_strings_trimLeftUnicode.gh {C : Ctx} {p_s : Str} {p_cutset : Str} {K : Str → Heap → Prop} {H : Heap} (h : c_strings_trimLeftUnicode C p_s p_cutset (fun r0 H2 => ∃ H0, Gh C H2 H0 ∧ K r0 H0) H) : c_strings_trimLeftUnicode C p_s p_cutset K H :=
  Spec.gh (Spec.mono h fun _ H2 ⟨r0, hv, H0, hg, hk⟩ => ⟨H0, hg, r0, hv, hk⟩)
def c_strings_trimRightUnicode (C : Ctx) (p_s : Str) (p_cutset : Str) (K : Str → Heap → Prop) (H : Heap) : Prop :=
  Spec Tryd.prog C 76 [sv p_s, sv p_cutset] H (fun v H2 => ∃ (r0 : Str), v = sv r0 ∧ K r0 H2)
theorem c_strings_trimRightUnicode.mono {C : Ctx} {p_s : Str} {p_cutset : Str} {K K2 : Str → Heap → Prop} {H : Heap} (h : c_strings_trimRightUnicode C p_s p_cutset K H) (hk : ∀ r0 H2, K r0 H2 → K2 r0 H2) : c_strings_trimRightUnicode C p_s p_cutset K2 H :=
  Spec.mono h fun _ H2 ⟨r0, hv, h2⟩ => ⟨r0, hv, hk r0 H2 h2⟩
theorem c_strings_trimRightUnicode.gh {C : Ctx} {p_s : Str} {p_cutset : Str} {K : Str → Heap → Prop} {H : Heap} (h : c_strings_trimRightUnicode C p_s p_cutset (fun r0 H2 => ∃ H0, Gh C H2 H0 ∧ K r0 H0) H) : c_strings_trimRightUnicode C p_s p_cutset K H :=
  Spec.gh (Spec.mono h fun _ H2 ⟨r0, hv, H0, hg, hk⟩ => ⟨H0, hg, r0, hv, hk⟩)
def c_internal_stringslite_Index (C : Ctx) (p_s : Str) (p_substr : Str) (K : Int → Heap → Prop) (H : Heap) : Prop :=
  Spec Tryd.prog C 77 [sv p_s, sv p_substr] H (fun v H2 => ∃ (r0 : Int), v = .int .i64 r0 ∧ K r0 H2)
theorem c_internal_stringslite_Index.mono {C : Ctx} {p_s : Str} {p_substr : Str} {K K2 : Int → Heap → Prop} {H : Heap} (h : c_internal_stringslite_Index C p_s p_substr K H) (hk : ∀ r0 H2, K r0 H2 → K2 r0 H2) : c_internal_stringslite_Index C p_s p_substr K2 H :=
  Spec.mono h fun _ H2 ⟨r0, hv, h2⟩ => ⟨r0, hv, hk r0 H2 h2⟩
theorem c_internal_stringslite_Index.gh {C : Ctx} {p_s : Str} {p_substr : Str} {K : Int → Heap → Prop} {H : Heap} (h : c_internal_stringslite_Index C p_s p_substr (fun r0 H2 => ∃ H0, Gh C H2 H0 ∧ K r0 H0) H) : c_internal_stringslite_Index C p_s p_substr K H :=
  Spec.gh (Spec.mono h fun _ H2 ⟨r0, hv, H0, hg, hk⟩ => ⟨H0, hg, r0, hv, hk⟩)
def c_cmp_isNaN_uint8 (C : Ctx) (p_x : Int) (K : Bool → Heap → Prop) (H : Heap) : Prop :=
  Spec Tryd.prog C 83 [.int .u8 p_x] H (fun v H2 => ∃ (r0 : Bool), v = .bool r0 ∧ K r0 H2)
theorem c_cmp_isNaN_uint8.mono {C : Ctx} {p_x : Int} {K K2 : Bool → Heap → Prop} {H : Heap} (h : c_cmp_isNaN_uint8 C p_x K H) (hk : ∀ r0 H2, K r0 H2 → K2 r0 H2) : c_cmp_isNaN_uint8 C p_x K2 H :=
  Spec.mono h fun _ H2 ⟨r0, hv, h2⟩ => ⟨r0, hv, hk r0 H2 h2⟩
theorem c_cmp_isNaN_uint8.gh {C : Ctx} {p_x : Int} {K : Bool → Heap → Prop} {H : Heap} (h : c_cmp_isNaN_uint8 C p_x (fun r0 H2 => ∃ H0, Gh C H2 H0 ∧ K r0 H0) H) : c_cmp_isNaN_uint8 C p_x K H :=
  Spec.gh (Spec.mono h fun _ H2 ⟨r0, hv, H0, hg, hk⟩ => ⟨H0, hg, r0, hv, hk⟩)
def c_strings_HasPrefix (C : Ctx) (p_s : Str) (p_prefix : Str) (K : Bool → Heap → Prop) (H : Heap) : Prop :=
  Spec Tryd.prog C 84 [sv p_s, sv p_prefix] H (fun v H2 => ∃ (r0 : Bool), v = .bool r0 ∧ K r0 H2)
theorem c_strings_HasPrefix.mono {C : Ctx} {p_s : Str} {p_prefix : Str} {K K2 : Bool → Heap → Prop} {H : Heap} (h : c_strings_HasPrefix C p_s p_prefix K H) (hk : ∀ r0 H2, K r0 H2 → K2 r0 H2) : c_strings_HasPrefix C p_s p_prefix K2 H :=
  Spec.mono h fun _ H2 ⟨r0, hv, h2⟩ => ⟨r0, hv, hk r0 H2 h2⟩
theorem c_strings_HasPrefix.gh {C : Ctx} {p_s : Str} {p_prefix : Str} {K : Bool → Heap → Prop} {H : Heap} (h : c_strings_HasPrefix C p_s p_prefix (fun r0 H2 => ∃ H0, Gh C H2 H0 ∧ K r0 H0) H) : c_strings_HasPrefix C p_s p_prefix K H :=
  Spec.gh (Spec.mono h fun _ H2 ⟨r0, hv, H0, hg, hk⟩ => ⟨H0, hg, r0, hv, hk⟩)
def c_cmp_Compare_int (C : Ctx) (p_x : Int) (p_y : Int) (K : Int → Heap → Prop) (H : Heap) : Prop :=
  Spec Tryd.prog C 85 [.int .i64 p_x, .int .i64 p_y] H (fun v H2 => ∃ (r0 : Int), v = .int .i64 r0 ∧ K r0 H2)
theorem c_cmp_Compare_int.mono {C : Ctx} {p_x : Int} {p_y : Int} {K K2 : Int → Heap → Prop} {H : Heap} (h : c_cmp_Compare_int C p_x p_y K H) (hk : ∀ r0 H2, K r0 H2 → K2 r0 H2) : c_cmp_Compare_int C p_x p_y K2 H :=
  Spec.mono h fun _ H2 ⟨r0, hv, h2⟩ => ⟨r0, hv, hk r0 H2 h2⟩
theorem c_cmp_Compare_int.gh {C : Ctx} {p_x : Int} {p_y : Int} {K : Int → Heap → Prop} {H : Heap} (h : c_cmp_Compare_int C p_x p_y (fun r0 H2 => ∃ H0, Gh C H2 H0 ∧ K r0 H0) H) : c_cmp_Compare_int C p_x p_y K H :=
  Spec.gh (Spec.mono h fun _ H2 ⟨r0, hv, H0, hg, hk⟩ => ⟨H0, hg, r0, hv, hk⟩)
def c_cmp_isNaN_string (C : Ctx) (p_x : Str) (K : Bool → Heap → Prop) (H : Heap) : Prop :=
  Spec Tryd.prog C 86 [sv p_x] H (fun v H2 => ∃ (r0 : Bool), v = .bool r0 ∧ K r0 H2)
theorem c_cmp_isNaN_string.mono {C : Ctx} {p_x : Str} {K K2 : Bool → Heap → Prop} {H : Heap} (h : c_cmp_isNaN_string C p_x K H) (hk : ∀ r0 H2, K r0 H2 → K2 r0 H2) : c_cmp_isNaN_string C p_x K2 H :=
  Spec.mono h fun _ H2 ⟨r0, hv, h2⟩ => ⟨r0, hv, hk r0 H2 h2⟩
theorem c_cmp_isNaN_string.gh {C : Ctx} {p_x : Str} {K : Bool → Heap → Prop} {H : Heap} (h : c_cmp_isNaN_string C p_x (fun r0 H2 => ∃ H0, Gh C H2 H0 ∧ K r0 H0) H) : c_cmp_isNaN_string C p_x K H :=
  Spec.gh (Spec.mono h fun _ H2 ⟨r0, hv, H0, hg, hk⟩ => ⟨H0, hg, r0, hv, hk⟩)
def c_cmp_isNaN_int64 (C : Ctx) (p_x : Int) (K : Bool → Heap → Prop) (H : Heap) : Prop :=
  Spec Tryd.prog C 87 [.int .i64 p_x] H (fun v H2 => ∃ (r0 : Bool), v = .bool r0 ∧ K r0 H2)
theorem c_cmp_isNaN_int64.mono {C : Ctx} {p_x : Int} {K K2 : Bool → Heap → Prop} {H : Heap} (h : c_cmp_isNaN_int64 C p_x K H) (hk : ∀ r0 H2, K r0 H2 → K2 r0 H2) : c_cmp_isNaN_int64 C p_x K2 H :=
  Spec.mono h fun _ H2 ⟨r0, hv, h2⟩ => ⟨r0, hv, hk r0 H2 h2⟩
theorem c_cmp_isNaN_int64.gh {C : Ctx} {p_x : Int} {K : Bool → Heap → Prop} {H : Heap} (h : c_cmp_isNaN_int64 C p_x (fun r0 H2 => ∃ H0, Gh C H2 H0 ∧ K r0 H0) H) : c_cmp_isNaN_int64 C p_x K H :=
  Spec.gh (Spec.mono h fun _ H2 ⟨r0, hv, H0, hg, hk⟩ => ⟨H0, hg, r0, hv, hk⟩)
def c_slices_rotateCmpFunc_api_Value (C : Ctx) (p_data : Sl) (p_a : Int) (p_m : Int) (p_b : Int) (p_cmp : Value) (K : Heap → Prop) (H : Heap) : Prop :=
  Spec Tryd.prog C 88 [slv p_data, .int .i64 p_a, .int .i64 p_m, .int .i64 p_b, p_cmp] H (fun v H2 => v = .tuple #[] ∧ K H2)
theorem c_slices_rotateCmpFunc_api_Value.mono {C : Ctx} {p_data : Sl} {p_a : Int} {p_m : Int} {p_b : Int} {p_cmp : Value} {K K2 : Heap → Prop} {H : Heap} (h : c_slices_rotateCmpFunc_api_Value C p_data p_a p_m p_b p_cmp K H) (hk : ∀  H2, K  H2 → K2  H2) : c_slices_rotateCmpFunc_api_Value C p_data p_a p_m p_b p_cmp K2 H :=
  Spec.mono h fun _ H2 ⟨hv, h2⟩ => ⟨hv, hk H2 h2⟩
theorem c_slices_rotateCmpFunc_api_Value.gh {C : Ctx} {p_data : Sl} {p_a : Int} {p_m : Int} {p_b : Int} {p_cmp : Value} {K : Heap → Prop} {H : Heap} (h : c_slices_rotateCmpFunc_api_Value C p_data p_a p_m p_b p_cmp (fun  H2 => ∃ H0, Gh C H2 H0 ∧ K  H0) H) : c_slices_rotateCmpFunc_api_Value C p_data p_a p_m p_b p_cmp K H :=
  Spec.gh (Spec.mono h fun _ H2 ⟨hv, H0, hg, hk⟩ => ⟨H0, hg, hv, hk⟩)
def c_internal_stringslite_HasPrefix (C : Ctx) (p_s : Str) (p_prefix : Str) (K : Bool → Heap → Prop) (H : Heap) : Prop :=
  Spec Tryd.prog C 89 [sv p_s, sv p_prefix] H (fun v H2 => ∃ (r0 : Bool), v = .bool r0 ∧ K r0 H2)
theorem c_internal_stringslite_HasPrefix.mono {C : Ctx} {p_s : Str} {p_prefix : Str} {K K2 : Bool → Heap → Prop} {H : Heap} (h : c_internal_stringslite_HasPrefix C p_s p_prefix K H) (hk : ∀ r0 H2, K r0 H2 → K2 r0 H2) : c_internal_stringslite_HasPrefix C p_s p_prefix K2 H :=
  Spec.mono h fun _ H2 ⟨r0, hv, h2⟩ => ⟨r0, hv, hk r0 H2 h2⟩
theorem c_internal_stringslite_HasPrefix.gh {C : Ctx} {p_s : Str} {p_prefix : Str} {K : Bool → Heap → Prop} {H : Heap} (h : c_internal_stringslite_HasPrefix C p_s p_prefix (fun r0 H2 => ∃ H0, Gh C H2 H0 ∧ K r0 H0) H) : c_internal_stringslite_HasPrefix C p_s p_prefix K H :=
  Spec.gh (Spec.mono h fun _ H2 ⟨r0, hv, H0, hg, hk⟩ => ⟨H0, hg, r0, hv, hk⟩)
def c_strings_asciiSet_contains (C : Ctx) (p_as : Option (Nat × Nat)) (p_c : Int) (K : Bool → Heap → Prop) (H : Heap) : Prop :=
  Spec Tryd.prog C 90 [pv p_as, .int .u8 p_c] H (fun v H2 => ∃ (r0 : Bool), v = .bool r0 ∧ K r0 H2)
theorem c_strings_asciiSet_contains.mono {C : Ctx} {p_as : Option (Nat × Nat)} {p_c : Int} {K K2 : Bool → Heap → Prop} {H : Heap} (h : c_strings_asciiSet_contains C p_as p_c K H) (hk : ∀ r0 H2, K r0 H2 → K2 r0 H2) : c_strings_asciiSet_contains C p_as p_c K2 H :=
  Spec.mono h fun _ H2 ⟨r0, hv, h2⟩ => ⟨r0, hv, hk r0 H2 h2⟩
theorem c_strings_asciiSet_contains.gh {C : Ctx} {p_as : Option (Nat × Nat)} {p_c : Int} {K : Bool → Heap → Prop} {H : Heap} (h : c_strings_asciiSet_contains C p_as p_c (fun r0 H2 => ∃ H0, Gh C H2 H0 ∧ K r0 H0) H) : c_strings_asciiSet_contains C p_as p_c K H :=
  Spec.gh (Spec.mono h fun _ H2 ⟨r0, hv, H0, hg, hk⟩ => ⟨H0, hg, r0, hv, hk⟩)
def c_internal_stringslite_IndexByte (C : Ctx) (p_s : Str) (p_c : Int) (K : Int → Heap → Prop) (H : Heap) : Prop :=
  Spec Tryd.prog C 94 [sv p_s, .int .u8 p_c] H (fun v H2 => ∃ (r0 : Int), v = .int .i64 r0 ∧ K r0 H2)
theorem c_internal_stringslite_IndexByte.mono {C : Ctx} {p_s : Str} {p_c : Int} {K K2 : Int → Heap → Prop} {H : Heap} (h : c_internal_stringslite_IndexByte C p_s p_c K H) (hk : ∀ r0 H2, K r0 H2 → K2 r0 H2) : c_internal_stringslite_IndexByte C p_s p_c K2 H :=
  Spec.mono h fun _ H2 ⟨r0, hv, h2⟩ => ⟨r0, hv, hk r0 H2 h2⟩
theorem c_internal_stringslite_IndexByte.gh {C : Ctx} {p_s : Str} {p_c : Int} {K : Int → Heap → Prop} {H : Heap} (h : c_internal_stringslite_IndexByte C p_s p_c (fun r0 H2 => ∃ H0, Gh C H2 H0 ∧ K r0 H0) H) : c_internal_stringslite_IndexByte C p_s p_c K H :=
  Spec.gh (Spec.mono h fun _ H2 ⟨r0, hv, H0, hg, hk⟩ => ⟨H0, hg, r0, hv, hk⟩)
def c_internal_bytealg_Cutover (C : Ctx) (p_n : Int) (K : Int → Heap → Prop) (H : Heap) : Prop :=
  Spec Tryd.prog C 96 [.int .i64 p_n] H (fun v H2 => ∃ (r0 : Int), v = .int .i64 r0 ∧ K r0 H2)
theorem c_internal_bytealg_Cutover.mono {C : Ctx} {p_n : Int} {K K2 : Int → Heap → Prop} {H : Heap} (h : c_internal_bytealg_Cutover C p_n K H) (hk : ∀ r0 H2, K r0 H2 → K2 r0 H2) : c_internal_bytealg_Cutover C p_n K2 H :=
  Spec.mono h fun _ H2 ⟨r0, hv, h2⟩ => ⟨r0, hv, hk r0 H2 h2⟩
theorem c_internal_bytealg_Cutover.gh {C : Ctx} {p_n : Int} {K : Int → Heap → Prop} {H : Heap} (h : c_internal_bytealg_Cutover C p_n (fun r0 H2 => ∃ H0, Gh C H2 H0 ∧ K r0 H0) H) : c_internal_bytealg_Cutover C p_n K H :=
  Spec.gh (Spec.mono h fun _ H2 ⟨r0, hv, H0, hg, hk⟩ => ⟨H0, hg, r0, hv, hk⟩)
def c_internal_bytealg_IndexRabinKarp_string (C : Ctx) (p_s : Str) (p_sep : Str) (K : Int → Heap → Prop) (H : Heap) : Prop :=
  Spec Tryd.prog C 97 [sv p_s, sv p_sep] H (fun v H2 => ∃ (r0 : Int), v = .int .i64 r0 ∧ K r0 H2)
theorem c_internal_bytealg_IndexRabinKarp_string.mono {C : Ctx} {p_s : Str} {p_sep : Str} {K K2 : Int → Heap → Prop} {H : Heap} (h : c_internal_bytealg_IndexRabinKarp_string C p_s p_sep K H) (hk : ∀ r0 H2, K r0 H2 → K2 r0 H2) : c_internal_bytealg_IndexRabinKarp_string C p_s p_sep K2 H :=
  Spec.mono h fun _ H2 ⟨r0, hv, h2⟩ => ⟨r0, hv, hk r0 H2 h2⟩
theorem c_internal_bytealg_IndexRabinKarp_string.gh {C : Ctx} {p_s : Str} {p_sep : Str} {K : Int → Heap → Prop} {H : Heap} (h : c_internal_bytealg_IndexRabinKarp_string C p_s p_sep (fun r0 H2 => ∃ H0, Gh C H2 H0 ∧ K r0 H0) H) : c_internal_bytealg_IndexRabinKarp_string C p_s p_sep K H :=
  Spec.gh (Spec.mono h fun _ H2 ⟨r0, hv, H0, hg, hk⟩ => ⟨H0, hg, r0, hv, hk⟩)
def c_cmp_isNaN_int (C : Ctx) (p_x : Int) (K : Bool → Heap → Prop) (H : Heap) : Prop :=
  Spec Tryd.prog C 100 [.int .i64 p_x] H (fun v H2 => ∃ (r0 : Bool), v = .bool r0 ∧ K r0 H2)
theorem c_cmp_isNaN_int.mono {C : Ctx} {p_x : Int} {K K2 : Bool → Heap → Prop} {H : Heap} (h : c_cmp_isNaN_int C p_x K H) (hk : ∀ r0 H2, K r0 H2 → K2 r0 H2) : c_cmp_isNaN_int C p_x K2 H :=
  Spec.mono h fun _ H2 ⟨r0, hv, h2⟩ => ⟨r0, hv, hk r0 H2 h2⟩
theorem c_cmp_isNaN_int.gh {C : Ctx} {p_x : Int} {K : Bool → Heap → Prop} {H : Heap} (h : c_cmp_isNaN_int C p_x (fun r0 H2 => ∃ H0, Gh C H2 H0 ∧ K r0 H0) H) : c_cmp_isNaN_int C p_x K H :=
  Spec.gh (Spec.mono h fun _ H2 ⟨r0, hv, H0, hg, hk⟩ => ⟨H0, hg, r0, hv, hk⟩)
def c_slices_swapRangeCmpFunc_api_Value (C : Ctx) (p_data : Sl) (p_a : Int) (p_b : Int) (p_n : Int) (p_cmp : Value) (K : Heap → Prop) (H : Heap) : Prop :=
  Spec Tryd.prog C 101 [slv p_data, .int .i64 p_a, .int .i64 p_b, .int .i64 p_n, p_cmp] H (fun v H2 => v = .tuple #[] ∧ K H2)
theorem c_slices_swapRangeCmpFunc_api_Value.mono {C : Ctx} {p_data : Sl} {p_a : Int} {p_b : Int} {p_n : Int} {p_cmp : Value} {K K2 : Heap → Prop} {H : Heap} (h : c_slices_swapRangeCmpFunc_api_Value C p_data p_a p_b p_n p_cmp K H) (hk : ∀  H2, K  H2 → K2  H2) : c_slices_swapRangeCmpFunc_api_Value C p_data p_a p_b p_n p_cmp K2 H :=
  Spec.mono h fun _ H2 ⟨hv, h2⟩ => ⟨hv, hk H2 h2⟩
theorem c_slices_swapRangeCmpFunc_api_Value.gh {C : Ctx} {p_data : Sl} {p_a : Int} {p_b : Int} {p_n : Int} {p_cmp : Value} {K : Heap → Prop} {H : Heap} (h : c_slices_swapRangeCmpFunc_api_Value C p_data p_a p_b p_n p_cmp (fun  H2 => ∃ H0, Gh C H2 H0 ∧ K  H0) H) : c_slices_swapRangeCmpFunc_api_Value C p_data p_a p_b p_n p_cmp K H :=
  Spec.gh (Spec.mono h fun _ H2 ⟨hv, H0, hg, hk⟩ => ⟨H0, hg, hv, hk⟩)
def sh_law02_ValueTexts (C : Ctx) (p_a : T_api_Value) (p_b : T_api_Value) (K : Bool → Heap → Prop) (H : Heap) : Prop :=
  nw (T_api_Value.c p_a) (fun b1 H2 =>
 nw (T_api_Value.c p_b) (fun b3 H4 =>
 ldT H4 T_api_Value.c (b1, 0) fun x5 =>
 ldT H4 T_api_Value.c (b3, 0) fun x7 =>
 nw ((T_api_Value.c x5) ++ (T_api_Value.c x7) ++ []) (fun b9 H10 =>
 c_law02_heavy C (Sl.of (some (b9, 0)) 2 2) (fun r11 H12 =>
 jn (α := Bool) (fun b13 H19 =>
 ift b13
 (c_law02_awake C (fun r21 H22 =>
 K r21 H22) H19)
 (ldT H19 T_api_Value.c (b1, 0) fun x23 =>
 c_value_Check C x23 (fun r25 H26 =>
 jn (α := Bool) (fun b27 H35 =>
 ift b27
 (K true H35)
 (dr H35 fun Hs37 =>
 ldT Hs37 T_api_Value.c (b1, 0) fun x39 =>
 ldT Hs37 T_api_Value.c (b3, 0) fun x41 =>
 ldT Hs37 T_api_Value.c (b1, 0) fun x43 =>
 ldT Hs37 T_api_Value.c (b3, 0) fun x45 =>
 c_value_Show C x39 (fun r48 H49 =>
 Heap.le Hs37 H49 ∧
 c_value_Show C x41 (fun r51 H52 =>
 Heap.le Hs37 H52 ∧
 c_ref02_Same C x43 x45 (fun r54 H55 =>
 Heap.le Hs37 H55 ∧
 ift ((r48 == r51) == r54)
 (ldT Hs37 T_api_Value.c (b1, 0) fun x57 =>
 c_value_Show C x57 (fun r60 H61 =>
 Heap.le Hs37 H61 ∧
 K (!(r60 == ([] : Str))) H61) H55)
 (K false H55)) H52) H49) H35))
 (fun J28 => ift ((r25 : Int) != 0)
 (J28 true H26)
 (ldT H26 T_api_Value.c (b3, 0) fun x31 =>
 c_value_Check C x31 (fun r33 H34 =>
 J28 ((r33 : Int) != 0) H34) H26))) H19))
 (fun J14 => ift r11
 (J14 true H12)
 (c_law02_awake C (fun r17 H18 =>
 J14 (!r17) H18) H12))) H10) H4) H2) H

theorem ad_law02_ValueTexts (C : Ctx) (p_a : T_api_Value) (p_b : T_api_Value) (K : Bool → Heap → Prop) (H : Heap) (h : sh_law02_ValueTexts C p_a p_b K H) : c_law02_ValueTexts C p_a p_b K H := by
  refine Spec.enter Tryd.func5 rfl Tryd.ntmps5 rfl ?_
  refine GC.sub [(0, .agg (T_api_Value.c p_a).toArray), (1, .agg (T_api_Value.c p_b).toArray)] ⟨rfl, rfl, trivial⟩ ?_
  refine GC.seq ?_
  refine GC.region ?_
  refine GL.box (v := .agg (T_api_Value.c p_a).toArray) (cs := T_api_Value.c p_a) h trivial rfl rfl rfl ?_
  intro b1 H2 h
  refine GL.box (v := .agg (T_api_Value.c p_b).toArray) (cs := T_api_Value.c p_b) h trivial rfl rfl rfl ?_
  intro b3 H4 h
  refine GL.val trivial rfl (OV.assign (v := .bool false) rfl) ?_
  refine GL.nil ?_
  refine GC.seq ?_
  refine GC.seq ?_
  refine GC.region ?_
  obtain ⟨x5, hr6, h⟩ := h
  refine GL.val trivial rfl (OV.loadT (p := (b1, 0)) (cs := T_api_Value.c x5) rfl rfl rfl hr6) ?_
  obtain ⟨x7, hr8, h⟩ := h
  refine GL.val trivial rfl (OV.loadT (p := (b3, 0)) (cs := T_api_Value.c x7) rfl rfl rfl hr8) ?_
  refine GL.buildSlice (cs := (T_api_Value.c x5) ++ (T_api_Value.c x7) ++ []) h trivial rfl (vs := [(0, .agg (T_api_Value.c x5).toArray), (1, .agg (T_api_Value.c x7).toArray)]) rfl ⟨24, fun _ => by kernel_rfl⟩ ?_
  intro b9 H10 h
  refine GL.call h trivial rfl ok_law02_heavy (vs := [slv (Sl.of (some (b9, 0)) 2 2)]) rfl ?_
  rintro _ H12 ⟨r11, rfl, h⟩
  refine GL.val trivial rfl (OV.move (v := .bool r11) rfl) ?_
  obtain ⟨J14, h, hR15⟩ := h
  refine GL.cut (α := Bool) 3 J14 (fun b13 => [(12, .bool b13), (2, pv (some (b1, 0))), (3, pv (some (b3, 0)))]) ?_ ?_
  · rcases Bool.eq_false_or_eq_true r11 with hc16 | hc16
    · skip
      replace h := And.left h hc16
      refine GL.skip ⟨_, rfl, .inl ⟨_, rfl, hc16⟩⟩ rfl ?_
      refine GL.skip ⟨_, rfl, .inl ⟨_, rfl, hc16⟩⟩ rfl ?_
      refine GL.val trivial rfl (OV.pickT (b := r11) (v := .bool true) rfl hc16 rfl) ?_
      exact GL.jump (fun _ _ h => h) true h ⟨rfl, rfl, rfl, trivial⟩
    · skip
      replace h := And.right h hc16
      refine GL.call h ⟨_, _, rfl, rfl, hc16⟩ rfl ok_law02_awake (vs := []) rfl ?_
      rintro _ H18 ⟨r17, rfl, h⟩
      refine GL.val ⟨_, _, rfl, rfl, hc16⟩ rfl (OV.not rfl) ?_
      refine GL.val trivial rfl (OV.pickF (b := r11) (v := .bool (!r17)) rfl hc16 rfl) ?_
      exact GL.jump (fun _ _ h => h) (!r17) h ⟨rfl, rfl, rfl, trivial⟩
  intro b13 H19 h
  replace h := hR15 b13 H19 h
  refine GL.nil ?_
  refine GC.cond (b := b13) rfl (fun hc20 => ?_) (fun hc20 => ?_)
  · replace h := And.left h hc20
    refine GC.seq ?_
    refine GC.region ?_
    refine GL.call h trivial rfl ok_law02_awake (vs := []) rfl ?_
    rintro _ H22 ⟨r21, rfl, h⟩
    refine GL.val trivial rfl (OV.assign (v := .bool r21) rfl) ?_
    refine GL.nil ?_
    exact GC.ret (fun _ _ hf hs => post_tmp1 rfl rfl hf hs ⟨r21, rfl, h⟩)
  · replace h := And.right h hc20
    refine GC.skip ?_
    refine GC.seq ?_
    refine GC.seq ?_
    refine GC.region ?_
    obtain ⟨x23, hr24, h⟩ := h
    refine GL.val trivial rfl (OV.loadT (p := (b1, 0)) (cs := T_api_Value.c x23) rfl rfl rfl hr24) ?_
    refine GL.call h trivial rfl ok_value_Check (vs := [.agg (T_api_Value.c x23).toArray]) rfl ?_
    rintro _ H26 ⟨r25, rfl, h⟩
    refine GL.val trivial rfl (OV.ibin (v := .bool ((r25 : Int) != 0)) rfl rfl rfl) ?_
    refine GL.val trivial rfl (OV.move (v := .bool ((r25 : Int) != 0)) rfl) ?_
    obtain ⟨J28, h, hR29⟩ := h
    refine GL.cut (α := Bool) 4 J28 (fun b27 => [(21, .bool b27), (2, pv (some (b1, 0))), (3, pv (some (b3, 0)))]) ?_ ?_
    · rcases Bool.eq_false_or_eq_true ((r25 : Int) != 0) with hc30 | hc30
      · skip
        replace h := And.left h hc30
        refine GL.skip ⟨_, rfl, .inl ⟨_, rfl, hc30⟩⟩ rfl ?_
        refine GL.skip ⟨_, rfl, .inl ⟨_, rfl, hc30⟩⟩ rfl ?_
        refine GL.skip ⟨_, rfl, .inl ⟨_, rfl, hc30⟩⟩ rfl ?_
        refine GL.val trivial rfl (OV.pickT (b := (r25 : Int) != 0) (v := .bool true) rfl hc30 rfl) ?_
        exact GL.jump (fun _ _ h => h) true h ⟨rfl, rfl, rfl, trivial⟩
      · skip
        replace h := And.right h hc30
        obtain ⟨x31, hr32, h⟩ := h
        refine GL.val ⟨_, _, rfl, rfl, hc30⟩ rfl (OV.loadT (p := (b3, 0)) (cs := T_api_Value.c x31) rfl rfl rfl hr32) ?_
        refine GL.call h ⟨_, _, rfl, rfl, hc30⟩ rfl ok_value_Check (vs := [.agg (T_api_Value.c x31).toArray]) rfl ?_
        rintro _ H34 ⟨r33, rfl, h⟩
        refine GL.val ⟨_, _, rfl, rfl, hc30⟩ rfl (OV.ibin (v := .bool ((r33 : Int) != 0)) rfl rfl rfl) ?_
        refine GL.val trivial rfl (OV.pickF (b := (r25 : Int) != 0) (v := .bool ((r33 : Int) != 0)) rfl hc30 rfl) ?_
        exact GL.jump (fun _ _ h => h) ((r33 : Int) != 0) h ⟨rfl, rfl, rfl, trivial⟩
    intro b27 H35 h
    replace h := hR29 b27 H35 h
    refine GL.nil ?_
    refine GC.cond (b := b27) rfl (fun hc36 => ?_) (fun hc36 => ?_)
    · replace h := And.left h hc36
      refine GC.seq ?_
      refine GC.region ?_
      refine GL.val trivial rfl (OV.assign (v := .bool true) rfl) ?_
      refine GL.nil ?_
      exact GC.ret (fun _ _ hf hs => post_tmp1 rfl rfl hf hs ⟨true, rfl, h⟩)
    · replace h := And.right h hc36
      refine GC.skip ?_
      refine GC.seq ?_
      obtain ⟨Hs37, hle38, h⟩ := h
      refine GC.any (Hs := Hs37) (by kernel_rfl) hle38 ?_
      obtain ⟨x39, hr40, h⟩ := h
      refine GA.take 0 rfl (by kernel_rfl) (by kernel_rfl) (by kernel_rfl) (fun _ _ _ h => False.elim h) trivial rfl (OV.loadT (p := (b1, 0)) (cs := T_api_Value.c x39) rfl rfl rfl hr40) ?_
      obtain ⟨x41, hr42, h⟩ := h
      refine GA.take 2 rfl (by kernel_rfl) (by kernel_rfl) (by kernel_rfl) (fun _ _ _ h => False.elim h) trivial rfl (OV.loadT (p := (b3, 0)) (cs := T_api_Value.c x41) rfl rfl rfl hr42) ?_
      obtain ⟨x43, hr44, h⟩ := h
      refine GA.take 5 rfl (by kernel_rfl) (by kernel_rfl) (by kernel_rfl) (fun _ _ _ h => False.elim h) trivial rfl (OV.loadT (p := (b1, 0)) (cs := T_api_Value.c x43) rfl rfl rfl hr44) ?_
      obtain ⟨x45, hr46, h⟩ := h
      refine GA.take 6 rfl (by kernel_rfl) (by kernel_rfl) (by kernel_rfl) (fun _ _ _ h => False.elim h) trivial rfl (OV.loadT (p := (b3, 0)) (cs := T_api_Value.c x45) rfl rfl rfl hr46) ?_
      refine GA.eff 1 rfl (by kernel_rfl) ?_
      refine GL.call h trivial rfl ok_value_Show (vs := [.agg (T_api_Value.c x39).toArray]) rfl ?_
      rintro _ H49 ⟨r48, rfl, h⟩
      obtain ⟨hle47, h⟩ := h
      refine GA.back hle47 ?_
      refine GA.eff 3 rfl (by kernel_rfl) ?_
      refine GL.call h trivial rfl ok_value_Show (vs := [.agg (T_api_Value.c x41).toArray]) rfl ?_
      rintro _ H52 ⟨r51, rfl, h⟩
      obtain ⟨hle50, h⟩ := h
      refine GA.back hle50 ?_
      refine GA.take 4 rfl (by kernel_rfl) (by kernel_rfl) (by kernel_rfl) (fun _ _ _ h => False.elim h) trivial rfl (OV.sbin (a := r48) (b := r51) (v := .bool (r48 == r51)) rfl rfl rfl) ?_
      refine GA.eff 7 rfl (by kernel_rfl) ?_
      refine GL.call h trivial rfl ok_ref02_Same (vs := [.agg (T_api_Value.c x43).toArray, .agg (T_api_Value.c x45).toArray]) rfl ?_
      rintro _ H55 ⟨r54, rfl, h⟩
      obtain ⟨hle53, h⟩ := h
      refine GA.back hle53 ?_
      refine GA.take 8 rfl (by kernel_rfl) (by kernel_rfl) (by kernel_rfl) (fun _ _ _ h => False.elim h) trivial rfl (OV.eqlBool rfl rfl rfl) ?_
      refine GA.take 9 rfl (by kernel_rfl) (by kernel_rfl) (by kernel_rfl) (fun _ _ _ h => False.elim h) trivial rfl (OV.move (v := .bool ((r48 == r51) == r54)) rfl) ?_
      rcases Bool.eq_false_or_eq_true ((r48 == r51) == r54) with hc56 | hc56
      · replace h := And.left h hc56
        obtain ⟨x57, hr58, h⟩ := h
        refine GA.take 10 rfl (by kernel_rfl) (by kernel_rfl) (by kernel_rfl) (fun _ _ _ h => False.elim h) ⟨_, _, rfl, rfl, hc56⟩ rfl (OV.loadT (p := (b1, 0)) (cs := T_api_Value.c x57) rfl rfl rfl hr58) ?_
        refine GA.eff 11 rfl (by kernel_rfl) ?_
        refine GL.call h ⟨_, _, rfl, rfl, hc56⟩ rfl ok_value_Show (vs := [.agg (T_api_Value.c x57).toArray]) rfl ?_
        rintro _ H61 ⟨r60, rfl, h⟩
        obtain ⟨hle59, h⟩ := h
        refine GA.back hle59 ?_
        refine GA.take 12 rfl (by kernel_rfl) (by kernel_rfl) (by kernel_rfl) (fun _ _ _ h => False.elim h) ⟨_, _, rfl, rfl, hc56⟩ rfl (OV.sbin (a := r60) (b := ([] : Str)) (v := .bool (!(r60 == ([] : Str)))) rfl rfl rfl) ?_
        refine GA.take 13 rfl (by kernel_rfl) (by kernel_rfl) (by kernel_rfl) (fun _ _ _ h => False.elim h) trivial rfl (OV.pickT (b := (r48 == r51) == r54) (v := .bool (!(r60 == ([] : Str)))) rfl hc56 rfl) ?_
        refine GA.take 14 rfl (by kernel_rfl) (by kernel_rfl) (by kernel_rfl) (fun _ _ _ h => False.elim h) trivial rfl (OV.assign (v := .bool (!(r60 == ([] : Str)))) rfl) ?_
        refine GA.done (by kernel_rfl) ?_
        refine GL.nil ?_
        exact GC.ret (fun _ _ hf hs => post_tmp1 rfl rfl hf hs ⟨(!(r60 == ([] : Str))), rfl, h⟩)
      · replace h := And.right h hc56
        refine GA.skip 10 rfl (by kernel_rfl) (by kernel_rfl) (by kernel_rfl) (fun _ _ _ h => False.elim h) ⟨_, rfl, .inl ⟨_, rfl, hc56⟩⟩ rfl ?_
        refine GA.skip 11 rfl (by kernel_rfl) (by kernel_rfl) (by kernel_rfl) (fun _ _ _ h => False.elim h) ⟨_, rfl, .inl ⟨_, rfl, hc56⟩⟩ rfl ?_
        refine GA.skip 12 rfl (by kernel_rfl) (by kernel_rfl) (by kernel_rfl) (fun _ _ _ h => False.elim h) ⟨_, rfl, .inl ⟨_, rfl, hc56⟩⟩ rfl ?_
        refine GA.take 13 rfl (by kernel_rfl) (by kernel_rfl) (by kernel_rfl) (fun _ _ _ h => False.elim h) trivial rfl (OV.pickF (b := (r48 == r51) == r54) (v := .bool false) rfl hc56 rfl) ?_
        refine GA.take 14 rfl (by kernel_rfl) (by kernel_rfl) (by kernel_rfl) (fun _ _ _ h => False.elim h) trivial rfl (OV.assign (v := .bool false) rfl) ?_
        refine GA.done (by kernel_rfl) ?_
        refine GL.nil ?_
        exact GC.ret (fun _ _ hf hs => post_tmp1 rfl rfl hf hs ⟨false, rfl, h⟩)

def sh_value_Cmp (C : Ctx) (p_a : T_api_Value) (p_b : T_api_Value) (K : Int → Heap → Prop) (H : Heap) : Prop :=
  nw (T_api_Value.c p_a) (fun b1 H2 =>
 nw (T_api_Value.c p_b) (fun b3 H4 =>
 ldT H4 T_api_Value.c (b1, 0) fun x5 =>
 nw ((T_api_Value.c x5) ++ []) (fun b7 H8 =>
 ldT H8 T_api_Value.c (b3, 0) fun x9 =>
 nw ((T_api_Value.c x9) ++ []) (fun b11 H12 =>
 c_value_CmpRows C (Sl.of (some (b7, 0)) 1 1) (Sl.of (some (b11, 0)) 1 1) (fun r13 H14 =>
 K r13 H14) H12) H8) H4) H2) H

theorem ad_value_Cmp (C : Ctx) (p_a : T_api_Value) (p_b : T_api_Value) (K : Int → Heap → Prop) (H : Heap) (h : sh_value_Cmp C p_a p_b K H) : c_value_Cmp C p_a p_b K H := by
  refine Spec.enter Tryd.func12 rfl Tryd.ntmps12 rfl ?_
  refine GC.sub [(0, .agg (T_api_Value.c p_a).toArray), (1, .agg (T_api_Value.c p_b).toArray)] ⟨rfl, rfl, trivial⟩ ?_
  refine GC.seq ?_
  refine GC.region ?_
  refine GL.box (v := .agg (T_api_Value.c p_a).toArray) (cs := T_api_Value.c p_a) h trivial rfl rfl rfl ?_
  intro b1 H2 h
  refine GL.box (v := .agg (T_api_Value.c p_b).toArray) (cs := T_api_Value.c p_b) h trivial rfl rfl rfl ?_
  intro b3 H4 h
  refine GL.val trivial rfl (OV.assign (v := .int .i64 0) rfl) ?_
  refine GL.nil ?_
  refine GC.seq ?_
  refine GC.region ?_
  obtain ⟨x5, hr6, h⟩ := h
  refine GL.val trivial rfl (OV.loadT (p := (b1, 0)) (cs := T_api_Value.c x5) rfl rfl rfl hr6) ?_
  refine GL.buildSlice (cs := (T_api_Value.c x5) ++ []) h trivial rfl (vs := [(0, .agg (T_api_Value.c x5).toArray)]) rfl ⟨24, fun _ => by kernel_rfl⟩ ?_
  intro b7 H8 h
  obtain ⟨x9, hr10, h⟩ := h
  refine GL.val trivial rfl (OV.loadT (p := (b3, 0)) (cs := T_api_Value.c x9) rfl rfl rfl hr10) ?_
  refine GL.buildSlice (cs := (T_api_Value.c x9) ++ []) h trivial rfl (vs := [(0, .agg (T_api_Value.c x9).toArray)]) rfl ⟨24, fun _ => by kernel_rfl⟩ ?_
  intro b11 H12 h
  refine GL.call h trivial rfl ok_value_CmpRows (vs := [slv (Sl.of (some (b7, 0)) 1 1), slv (Sl.of (some (b11, 0)) 1 1)]) rfl ?_
  rintro _ H14 ⟨r13, rfl, h⟩
  refine GL.val trivial rfl (OV.assign (v := .int .i64 r13) rfl) ?_
  refine GL.nil ?_
  exact GC.ret (fun _ _ hf hs => post_tmp1 rfl rfl hf hs ⟨r13, rfl, h⟩)

def sh_value_Check (C : Ctx) (p_v : T_api_Value) (K : Int → Heap → Prop) (H : Heap) : Prop :=
  nw (T_api_Value.c p_v) (fun b1 H2 =>
 ldT H2 T_api_Value.c (b1, 0) fun x3 =>
 c_value_depth C x3 65 (fun r5 H6 =>
 ift (decide ((r5 : Int) > 64))
 (K 65 H6)
 (ldT H6 T_api_Value.c (b1, 0) fun x8 =>
 c_value_item_look C x8 (fun r10 r11 H12 =>
 ift (!r10)
 (K 4 H12)
 (ift (!r11)
 (K 40 H12)
 (K 0 H12))) H6)) H2) H

theorem ad_value_Check (C : Ctx) (p_v : T_api_Value) (K : Int → Heap → Prop) (H : Heap) (h : sh_value_Check C p_v K H) : c_value_Check C p_v K H := by
  refine Spec.enter Tryd.func13 rfl Tryd.ntmps13 rfl ?_
  refine GC.sub [(0, .agg (T_api_Value.c p_v).toArray)] ⟨rfl, trivial⟩ ?_
  refine GC.seq ?_
  refine GC.region ?_
  refine GL.box (v := .agg (T_api_Value.c p_v).toArray) (cs := T_api_Value.c p_v) h trivial rfl rfl rfl ?_
  intro b1 H2 h
  refine GL.val trivial rfl (OV.assign (v := .int .i64 0) rfl) ?_
  refine GL.nil ?_
  refine GC.seq ?_
  refine GC.seq ?_
  refine GC.region ?_
  obtain ⟨x3, hr4, h⟩ := h
  refine GL.val trivial rfl (OV.loadT (p := (b1, 0)) (cs := T_api_Value.c x3) rfl rfl rfl hr4) ?_
  refine GL.call h trivial rfl ok_value_depth (vs := [.agg (T_api_Value.c x3).toArray, .int .i64 65]) rfl ?_
  rintro _ H6 ⟨r5, rfl, h⟩
  refine GL.val trivial rfl (OV.ibin (v := .bool (decide ((r5 : Int) > 64))) rfl rfl rfl) ?_
  refine GL.nil ?_
  refine GC.cond (b := decide ((r5 : Int) > 64)) rfl (fun hc7 => ?_) (fun hc7 => ?_)
  · replace h := And.left h hc7
    refine GC.seq ?_
    refine GC.region ?_
    refine GL.val trivial rfl (OV.assign (v := .int .i64 65) rfl) ?_
    refine GL.nil ?_
    exact GC.ret (fun _ _ hf hs => post_tmp1 rfl rfl hf hs ⟨65, rfl, h⟩)
  · replace h := And.right h hc7
    refine GC.skip ?_
    refine GC.seq ?_
    refine GC.seq ?_
    refine GC.region ?_
    obtain ⟨x8, hr9, h⟩ := h
    refine GL.val trivial rfl (OV.loadT (p := (b1, 0)) (cs := T_api_Value.c x8) rfl rfl rfl hr9) ?_
    refine GL.call h trivial rfl ok_value_item_look (vs := [.agg (T_api_Value.c x8).toArray]) rfl ?_
    rintro _ H12 ⟨r10, r11, rfl, h⟩
    refine GL.val trivial rfl (OV.move (v := .tuple #[.bool r10, .bool r11]) rfl) ?_
    refine GL.val trivial rfl (OV.extract (v := .bool r10) rfl rfl) ?_
    refine GL.val trivial rfl (OV.extract (v := .bool r11) rfl rfl) ?_
    refine GL.val trivial rfl (OV.assign (v := .bool r10) rfl) ?_
    refine GL.val trivial rfl (OV.assign (v := .bool r11) rfl) ?_
    refine GL.nil ?_
    refine GC.block ?_
    refine GC.seq ?_
    refine GC.region ?_
    refine GL.val trivial rfl (OV.move (v := .bool r10) rfl) ?_
    refine GL.val trivial rfl (OV.not rfl) ?_
    refine GL.val trivial rfl (OV.assign (v := .bool (!r10)) rfl) ?_
    refine GL.nil ?_
    refine GC.cond (b := !r10) rfl (fun hc13 => ?_) (fun hc13 => ?_)
    · replace h := And.left h hc13
      refine GC.seq ?_
      refine GC.region ?_
      refine GL.val trivial rfl (OV.assign (v := .int .i64 4) rfl) ?_
      refine GL.nil ?_
      exact GC.ret (fun _ _ hf hs => post_tmp1 rfl rfl hf hs ⟨4, rfl, h⟩)
    · replace h := And.right h hc13
      refine GC.seq ?_
      refine GC.region ?_
      refine GL.val trivial rfl (OV.move (v := .bool r11) rfl) ?_
      refine GL.val trivial rfl (OV.not rfl) ?_
      refine GL.val trivial rfl (OV.assign (v := .bool (!r11)) rfl) ?_
      refine GL.nil ?_
      refine GC.cond (b := !r11) rfl (fun hc14 => ?_) (fun hc14 => ?_)
      · replace h := And.left h hc14
        refine GC.seq ?_
        refine GC.region ?_
        refine GL.val trivial rfl (OV.assign (v := .int .i64 40) rfl) ?_
        refine GL.nil ?_
        exact GC.ret (fun _ _ hf hs => post_tmp1 rfl rfl hf hs ⟨40, rfl, h⟩)
      · replace h := And.right h hc14
        refine GC.skip_to (fun _ _ h => h) ?_
        refine GC.seq ?_
        refine GC.region ?_
        refine GL.val trivial rfl (OV.assign (v := .int .i64 0) rfl) ?_
        refine GL.nil ?_
        exact GC.ret (fun _ _ hf hs => post_tmp1 rfl rfl hf hs ⟨0, rfl, h⟩)

def sh_value_Show (C : Ctx) (p_v : T_api_Value) (K : Str → Heap → Prop) (H : Heap) : Prop :=
  nw (T_api_Value.c p_v) (fun b1 H2 =>
 ldT H2 T_api_Value.c (b1, 0) fun x3 =>
 c_value_Check C x3 (fun r5 H6 =>
 ift ((r5 : Int) != 0)
 (K [] H6)
 (nwB 49 5 (fun b8 H9 =>
 nw ([.nilFunc]) (fun b10 H11 =>
 nw ([.nilFunc]) (fun b12 H13 =>
 st (b12, 0) (.func (.func 24) (List.toArray []) (List.toArray [pv (some (b8, 0)), pv (some (b10, 0))])) (fun H14 =>
 st (b10, 0) (.func (.func 27) (List.toArray []) (List.toArray [pv (some (b8, 0)), pv (some (b12, 0))])) (fun H15 =>
 ldV H15 (b10, 0) fun x16 =>
 ldT H15 T_api_Value.c (b1, 0) fun x18 =>
 callU Tryd.prog C x16 [.agg (T_api_Value.c x18).toArray] H15 (fun v H20 => v = .tuple #[] ∧
 c_strings_Builder_String C (some (b8, 0)) (fun r21 H22 =>
 K r21 H22) H20)) H14) H13) H11) H9) H6)) H2) H

theorem ad_value_Show (C : Ctx) (p_v : T_api_Value) (K : Str → Heap → Prop) (H : Heap) (h : sh_value_Show C p_v K H) : c_value_Show C p_v K H := by
  refine Spec.enter Tryd.func14 rfl Tryd.ntmps14 rfl ?_
  refine GC.sub [(0, .agg (T_api_Value.c p_v).toArray)] ⟨rfl, trivial⟩ ?_
  refine GC.seq ?_
  refine GC.region ?_
  refine GL.box (v := .agg (T_api_Value.c p_v).toArray) (cs := T_api_Value.c p_v) h trivial rfl rfl rfl ?_
  intro b1 H2 h
  refine GL.val trivial rfl (OV.assign (v := sv []) rfl) ?_
  refine GL.nil ?_
  refine GC.seq ?_
  refine GC.seq ?_
  refine GC.region ?_
  obtain ⟨x3, hr4, h⟩ := h
  refine GL.val trivial rfl (OV.loadT (p := (b1, 0)) (cs := T_api_Value.c x3) rfl rfl rfl hr4) ?_
  refine GL.call h trivial rfl ok_value_Check (vs := [.agg (T_api_Value.c x3).toArray]) rfl ?_
  rintro _ H6 ⟨r5, rfl, h⟩
  refine GL.val trivial rfl (OV.ibin (v := .bool ((r5 : Int) != 0)) rfl rfl rfl) ?_
  refine GL.nil ?_
  refine GC.cond (b := (r5 : Int) != 0) rfl (fun hc7 => ?_) (fun hc7 => ?_)
  · replace h := And.left h hc7
    refine GC.seq ?_
    refine GC.region ?_
    refine GL.val trivial rfl (OV.assign (v := sv []) rfl) ?_
    refine GL.nil ?_
    exact GC.ret (fun _ _ hf hs => post_tmp1 rfl rfl hf hs ⟨[], rfl, h⟩)
  · replace h := And.right h hc7
    refine GC.skip ?_
    refine GC.seq ?_
    refine GC.region ?_
    refine GL.allocB (T := 49) (e := 5) h trivial rfl rfl rfl ?_
    intro b8 H9 h
    refine GL.nil ?_
    refine GC.seq ?_
    refine GC.region ?_
    refine GL.alloc (cs := [.nilFunc]) h trivial rfl rfl rfl ?_
    intro b10 H11 h
    refine GL.nil ?_
    refine GC.seq ?_
    refine GC.region ?_
    refine GL.val trivial rfl (OV.makeFunc (vs := []) (us := [pv (some (b8, 0)), pv (some (b10, 0))]) rfl rfl) ?_
    refine GL.alloc (cs := [.nilFunc]) h trivial rfl rfl rfl ?_
    intro b12 H13 h
    refine GL.store (p := (b12, 0)) (v := .func (.func 24) (List.toArray []) (List.toArray [pv (some (b8, 0)), pv (some (b10, 0))])) h trivial rfl rfl rfl rfl ?_
    intro H14 h
    refine GL.nil ?_
    refine GC.seq ?_
    refine GC.region ?_
    refine GL.val trivial rfl (OV.makeFunc (vs := []) (us := [pv (some (b8, 0)), pv (some (b12, 0))]) rfl rfl) ?_
    refine GL.store (p := (b10, 0)) (v := .func (.func 27) (List.toArray []) (List.toArray [pv (some (b8, 0)), pv (some (b12, 0))])) h trivial rfl rfl rfl rfl ?_
    intro H15 h
    refine GL.nil ?_
    refine GC.seq ?_
    refine GC.region ?_
    obtain ⟨x16, hr17, h⟩ := h
    refine GL.val trivial rfl (OV.load (p := (b10, 0)) rfl rfl hr17) ?_
    obtain ⟨x18, hr19, h⟩ := h
    refine GL.val trivial rfl (OV.loadT (p := (b1, 0)) (cs := T_api_Value.c x18) rfl rfl rfl hr19) ?_
    refine GL.callU (xv := x16) (vs := [.agg (T_api_Value.c x18).toArray]) h trivial rfl rfl rfl ?_
    rintro _ H20 ⟨rfl, h⟩
    refine GL.nil ?_
    refine GC.seq ?_
    refine GC.region ?_
    refine GL.call h trivial rfl ok_strings_Builder_String (vs := [pv (some (b8, 0))]) rfl ?_
    rintro _ H22 ⟨r21, rfl, h⟩
    refine GL.val trivial rfl (OV.assign (v := sv r21) rfl) ?_
    refine GL.nil ?_
    exact GC.ret (fun _ _ hf hs => post_tmp1 rfl rfl hf hs ⟨r21, rfl, h⟩)

def sh_law02_awake (C : Ctx) (K : Bool → Heap → Prop) (H : Heap) : Prop :=
  nw (T_api_Value.c T_api_Value.zero) (fun b1 H2 =>
 nw (T_api_Value.c T_api_Value.zero) (fun b3 H4 =>
 stT (b1, 0) (T_api_Value.c (⟨2, 3, [], Sl.nil⟩ : T_api_Value)) (fun H5 =>
 stT (b3, 0) (T_api_Value.c (⟨3, 0, [49, 48], Sl.nil⟩ : T_api_Value)) (fun H6 =>
 ldT H6 T_api_Value.c (b1, 0) fun x7 =>
 ldT H6 T_api_Value.c (b3, 0) fun x9 =>
 nw ((T_api_Value.c x7) ++ (T_api_Value.c x9) ++ []) (fun b11 H12 =>
 nw (T_api_Value.c T_api_Value.zero) (fun b13 H14 =>
 stT (b13, 0) (T_api_Value.c (⟨6, 0, [99, 111, 110, 115], (Sl.of (some (b11, 0)) 2 2)⟩ : T_api_Value)) (fun H15 =>
 ldT H15 T_api_Value.c (b3, 0) fun x16 =>
 nw ((T_api_Value.c x16) ++ []) (fun b18 H19 =>
 ldT H19 T_api_Value.c (b1, 0) fun x20 =>
 nw ((T_api_Value.c x20) ++ []) (fun b22 H23 =>
 ldT H23 T_api_Value.c (b3, 0) fun x24 =>
 nw ((T_api_Value.c x24) ++ []) (fun b26 H27 =>
 nw ([slv (Sl.of (some (b18, 0)) 1 1), slv (Sl.of (some (b22, 0)) 1 1), slv (Sl.of (some (b26, 0)) 1 1)]) (fun b28 H29 =>
 c_value_Sort C (Sl.of (some (b28, 0)) 3 3) (fun r30 H31 =>
 ldT H31 T_api_Value.c (b13, 0) fun x32 =>
 c_value_Check C x32 (fun r34 H35 =>
 jn (α := Bool) (fun b36 H46 =>
 jn (α := Bool) (fun b47 H63 =>
 jn (α := Bool) (fun b64 H72 =>
 jn (α := Bool) (fun b74 H85 =>
 jn (α := Bool) (fun b86 H104 =>
 jn (α := Bool) (fun b105 H111 =>
 K b105 H111)
 (fun J106 => ift b86
 (c_value_Check C (⟨0, 0, [], Sl.nil⟩ : T_api_Value) (fun r109 H110 =>
 J106 ((r109 : Int) == 4) H110) H104)
 (J106 false H104)))
 (fun J87 => ift b74
 (ixa r30 0 fun p90 =>
 ldL H85 (p90.1, p90.2 + (0 : Int).toNat * 1) fun x95 =>
 ixa x95 0 fun p97 =>
 ldI H85 .i64 ((p97.1, p97.2 + (0 : Int).toNat * 4).1, (p97.1, p97.2 + (0 : Int).toNat * 4).2 + 1) fun x102 =>
 J87 ((x102 : Int) == 3) H85)
 (J87 false H85)))
 (fun J75 => ift (b64 && (((Sl.len r30 : Int) : Int) == 2))
 (ixa r30 0 fun p78 =>
 ldL H72 (p78.1, p78.2 + (0 : Int).toNat * 1) fun x83 =>
 J75 (((Sl.len x83 : Int) : Int) == 1) H72)
 (J75 false H72)))
 (fun J65 => ift b47
 (ldT H63 T_api_Value.c (b13, 0) fun x68 =>
 c_value_Show C x68 (fun r70 H71 =>
 J65 (r70 == ([99, 111, 110, 115, 40, 51, 44, 32, 49, 48, 98, 41] : Str)) H71) H63)
 (J65 false H63)))
 (fun J48 => ift b36
 (ldT H46 T_api_Value.c (b1, 0) fun x51 =>
 nw ((T_api_Value.c x51) ++ []) (fun b53 H54 =>
 ldT H54 T_api_Value.c (b1, 0) fun x55 =>
 ldT H54 T_api_Value.c (b3, 0) fun x57 =>
 nw ((T_api_Value.c x55) ++ (T_api_Value.c x57) ++ []) (fun b59 H60 =>
 c_value_CmpRows C (Sl.of (some (b53, 0)) 1 1) (Sl.of (some (b59, 0)) 2 2) (fun r61 H62 =>
 J48 ((r61 : Int) == (-1)) H62) H60) H54) H46)
 (J48 false H46)))
 (fun J37 => ift ((r34 : Int) == 0)
 (ldT H35 T_api_Value.c (b1, 0) fun x40 =>
 ldT H35 T_api_Value.c (b3, 0) fun x42 =>
 c_value_Cmp C x40 x42 (fun r44 H45 =>
 J37 ((r44 : Int) == (-1)) H45) H35)
 (J37 false H35))) H31) H29) H27) H23) H19) H15) H14) H12) H6) H5) H4) H2) H

theorem ad_law02_awake (C : Ctx) (K : Bool → Heap → Prop) (H : Heap) (h : sh_law02_awake C  K H) : c_law02_awake C  K H := by
  refine Spec.enter Tryd.func15 rfl Tryd.ntmps15 rfl ?_
  refine GC.sub [] trivial ?_
  refine GC.seq ?_
  refine GC.region ?_
  refine GL.val trivial rfl (OV.assign (v := .bool false) rfl) ?_
  refine GL.nil ?_
  refine GC.seq ?_
  refine GC.region ?_
  refine GL.val trivial rfl (OV.build (vs := [(0, .int .u8 2), (1, .int .i64 3)]) (v := .agg (T_api_Value.c (⟨2, 3, [], Sl.nil⟩ : T_api_Value)).toArray) rfl (fun _ => by kernel_rfl)) ?_
  refine GL.val trivial rfl (OV.build (vs := [(0, .int .u8 3), (2, sv [49, 48])]) (v := .agg (T_api_Value.c (⟨3, 0, [49, 48], Sl.nil⟩ : T_api_Value)).toArray) rfl (fun _ => by kernel_rfl)) ?_
  refine GL.alloc (cs := T_api_Value.c T_api_Value.zero) h trivial rfl rfl rfl ?_
  intro b1 H2 h
  refine GL.alloc (cs := T_api_Value.c T_api_Value.zero) h trivial rfl rfl rfl ?_
  intro b3 H4 h
  refine GL.storeT (p := (b1, 0)) (vs := T_api_Value.c (⟨2, 3, [], Sl.nil⟩ : T_api_Value)) h trivial rfl rfl rfl rfl ?_
  intro H5 h
  refine GL.storeT (p := (b3, 0)) (vs := T_api_Value.c (⟨3, 0, [49, 48], Sl.nil⟩ : T_api_Value)) h trivial rfl rfl rfl rfl ?_
  intro H6 h
  refine GL.nil ?_
  refine GC.seq ?_
  refine GC.region ?_
  obtain ⟨x7, hr8, h⟩ := h
  refine GL.val trivial rfl (OV.loadT (p := (b1, 0)) (cs := T_api_Value.c x7) rfl rfl rfl hr8) ?_
  obtain ⟨x9, hr10, h⟩ := h
  refine GL.val trivial rfl (OV.loadT (p := (b3, 0)) (cs := T_api_Value.c x9) rfl rfl rfl hr10) ?_
  refine GL.buildSlice (cs := (T_api_Value.c x7) ++ (T_api_Value.c x9) ++ []) h trivial rfl (vs := [(0, .agg (T_api_Value.c x7).toArray), (1, .agg (T_api_Value.c x9).toArray)]) rfl ⟨24, fun _ => by kernel_rfl⟩ ?_
  intro b11 H12 h
  refine GL.val trivial rfl (OV.build (vs := [(0, .int .u8 6), (2, sv [99, 111, 110, 115]), (3, slv (Sl.of (some (b11, 0)) 2 2))]) (v := .agg (T_api_Value.c (⟨6, 0, [99, 111, 110, 115], (Sl.of (some (b11, 0)) 2 2)⟩ : T_api_Value)).toArray) rfl (fun _ => by kernel_rfl)) ?_
  refine GL.alloc (cs := T_api_Value.c T_api_Value.zero) h trivial rfl rfl rfl ?_
  intro b13 H14 h
  refine GL.storeT (p := (b13, 0)) (vs := T_api_Value.c (⟨6, 0, [99, 111, 110, 115], (Sl.of (some (b11, 0)) 2 2)⟩ : T_api_Value)) h trivial rfl rfl rfl rfl ?_
  intro H15 h
  refine GL.nil ?_
  refine GC.seq ?_
  refine GC.region ?_
  obtain ⟨x16, hr17, h⟩ := h
  refine GL.val trivial rfl (OV.loadT (p := (b3, 0)) (cs := T_api_Value.c x16) rfl rfl rfl hr17) ?_
  refine GL.buildSlice (cs := (T_api_Value.c x16) ++ []) h trivial rfl (vs := [(0, .agg (T_api_Value.c x16).toArray)]) rfl ⟨24, fun _ => by kernel_rfl⟩ ?_
  intro b18 H19 h
  obtain ⟨x20, hr21, h⟩ := h
  refine GL.val trivial rfl (OV.loadT (p := (b1, 0)) (cs := T_api_Value.c x20) rfl rfl rfl hr21) ?_
  refine GL.buildSlice (cs := (T_api_Value.c x20) ++ []) h trivial rfl (vs := [(0, .agg (T_api_Value.c x20).toArray)]) rfl ⟨24, fun _ => by kernel_rfl⟩ ?_
  intro b22 H23 h
  obtain ⟨x24, hr25, h⟩ := h
  refine GL.val trivial rfl (OV.loadT (p := (b3, 0)) (cs := T_api_Value.c x24) rfl rfl rfl hr25) ?_
  refine GL.buildSlice (cs := (T_api_Value.c x24) ++ []) h trivial rfl (vs := [(0, .agg (T_api_Value.c x24).toArray)]) rfl ⟨24, fun _ => by kernel_rfl⟩ ?_
  intro b26 H27 h
  refine GL.buildSlice (cs := [slv (Sl.of (some (b18, 0)) 1 1), slv (Sl.of (some (b22, 0)) 1 1), slv (Sl.of (some (b26, 0)) 1 1)]) h trivial rfl (vs := [(0, slv (Sl.of (some (b18, 0)) 1 1)), (1, slv (Sl.of (some (b22, 0)) 1 1)), (2, slv (Sl.of (some (b26, 0)) 1 1))]) rfl ⟨22, fun _ => by kernel_rfl⟩ ?_
  intro b28 H29 h
  refine GL.call h trivial rfl ok_value_Sort (vs := [slv (Sl.of (some (b28, 0)) 3 3)]) rfl ?_
  rintro _ H31 ⟨r30, rfl, h⟩
  refine GL.val trivial rfl (OV.assign (v := slv r30) rfl) ?_
  refine GL.nil ?_
  refine GC.seq ?_
  refine GC.region ?_
  obtain ⟨x32, hr33, h⟩ := h
  refine GL.val trivial rfl (OV.loadT (p := (b13, 0)) (cs := T_api_Value.c x32) rfl rfl rfl hr33) ?_
  refine GL.call h trivial rfl ok_value_Check (vs := [.agg (T_api_Value.c x32).toArray]) rfl ?_
  rintro _ H35 ⟨r34, rfl, h⟩
  refine GL.val trivial rfl (OV.ibin (v := .bool ((r34 : Int) == 0)) rfl rfl rfl) ?_
  refine GL.val trivial rfl (OV.move (v := .bool ((r34 : Int) == 0)) rfl) ?_
  obtain ⟨J37, h, hR38⟩ := h
  refine GL.cut (α := Bool) 5 J37 (fun b36 => [(27, .bool b36), (1, pv (some (b1, 0))), (2, pv (some (b3, 0))), (3, pv (some (b13, 0))), (4, slv r30)]) ?_ ?_
  · rcases Bool.eq_false_or_eq_true ((r34 : Int) == 0) with hc39 | hc39
    · skip
      replace h := And.left h hc39
      obtain ⟨x40, hr41, h⟩ := h
      refine GL.val ⟨_, _, rfl, rfl, hc39⟩ rfl (OV.loadT (p := (b1, 0)) (cs := T_api_Value.c x40) rfl rfl rfl hr41) ?_
      obtain ⟨x42, hr43, h⟩ := h
      refine GL.val ⟨_, _, rfl, rfl, hc39⟩ rfl (OV.loadT (p := (b3, 0)) (cs := T_api_Value.c x42) rfl rfl rfl hr43) ?_
      refine GL.call h ⟨_, _, rfl, rfl, hc39⟩ rfl ok_value_Cmp (vs := [.agg (T_api_Value.c x40).toArray, .agg (T_api_Value.c x42).toArray]) rfl ?_
      rintro _ H45 ⟨r44, rfl, h⟩
      refine GL.val ⟨_, _, rfl, rfl, hc39⟩ rfl (OV.ibin (v := .bool ((r44 : Int) == (-1))) rfl rfl rfl) ?_
      refine GL.val trivial rfl (OV.pickT (b := (r34 : Int) == 0) (v := .bool ((r44 : Int) == (-1))) rfl hc39 rfl) ?_
      exact GL.jump (fun _ _ h => h) ((r44 : Int) == (-1)) h ⟨rfl, rfl, rfl, rfl, rfl, trivial⟩
    · skip
      replace h := And.right h hc39
      refine GL.skip ⟨_, rfl, .inl ⟨_, rfl, hc39⟩⟩ rfl ?_
      refine GL.skip ⟨_, rfl, .inl ⟨_, rfl, hc39⟩⟩ rfl ?_
      refine GL.skip ⟨_, rfl, .inl ⟨_, rfl, hc39⟩⟩ rfl ?_
      refine GL.skip ⟨_, rfl, .inl ⟨_, rfl, hc39⟩⟩ rfl ?_
      refine GL.val trivial rfl (OV.pickF (b := (r34 : Int) == 0) (v := .bool false) rfl hc39 rfl) ?_
      exact GL.jump (fun _ _ h => h) false h ⟨rfl, rfl, rfl, rfl, rfl, trivial⟩
  intro b36 H46 h
  replace h := hR38 b36 H46 h
  refine GL.val trivial rfl (OV.move (v := .bool b36) rfl) ?_
  obtain ⟨J48, h, hR49⟩ := h
  refine GL.cut (α := Bool) 8 J48 (fun b47 => [(36, .bool b47), (3, pv (some (b13, 0))), (4, slv r30)]) ?_ ?_
  · rcases Bool.eq_false_or_eq_true b36 with hc50 | hc50
    · skip
      replace h := And.left h hc50
      obtain ⟨x51, hr52, h⟩ := h
      refine GL.val ⟨_, _, rfl, rfl, hc50⟩ rfl (OV.loadT (p := (b1, 0)) (cs := T_api_Value.c x51) rfl rfl rfl hr52) ?_
      refine GL.buildSlice (cs := (T_api_Value.c x51) ++ []) h ⟨_, _, rfl, rfl, hc50⟩ rfl (vs := [(0, .agg (T_api_Value.c x51).toArray)]) rfl ⟨24, fun _ => by kernel_rfl⟩ ?_
      intro b53 H54 h
      obtain ⟨x55, hr56, h⟩ := h
      refine GL.val ⟨_, _, rfl, rfl, hc50⟩ rfl (OV.loadT (p := (b1, 0)) (cs := T_api_Value.c x55) rfl rfl rfl hr56) ?_
      obtain ⟨x57, hr58, h⟩ := h
      refine GL.val ⟨_, _, rfl, rfl, hc50⟩ rfl (OV.loadT (p := (b3, 0)) (cs := T_api_Value.c x57) rfl rfl rfl hr58) ?_
      refine GL.buildSlice (cs := (T_api_Value.c x55) ++ (T_api_Value.c x57) ++ []) h ⟨_, _, rfl, rfl, hc50⟩ rfl (vs := [(0, .agg (T_api_Value.c x55).toArray), (1, .agg (T_api_Value.c x57).toArray)]) rfl ⟨24, fun _ => by kernel_rfl⟩ ?_
      intro b59 H60 h
      refine GL.call h ⟨_, _, rfl, rfl, hc50⟩ rfl ok_value_CmpRows (vs := [slv (Sl.of (some (b53, 0)) 1 1), slv (Sl.of (some (b59, 0)) 2 2)]) rfl ?_
      rintro _ H62 ⟨r61, rfl, h⟩
      refine GL.val ⟨_, _, rfl, rfl, hc50⟩ rfl (OV.ibin (v := .bool ((r61 : Int) == (-1))) rfl rfl rfl) ?_
      refine GL.val trivial rfl (OV.pickT (b := b36) (v := .bool ((r61 : Int) == (-1))) rfl hc50 rfl) ?_
      exact GL.jump (fun _ _ h => h) ((r61 : Int) == (-1)) h ⟨rfl, rfl, rfl, trivial⟩
    · skip
      replace h := And.right h hc50
      refine GL.skip ⟨_, rfl, .inl ⟨_, rfl, hc50⟩⟩ rfl ?_
      refine GL.skip ⟨_, rfl, .inl ⟨_, rfl, hc50⟩⟩ rfl ?_
      refine GL.skip ⟨_, rfl, .inl ⟨_, rfl, hc50⟩⟩ rfl ?_
      refine GL.skip ⟨_, rfl, .inl ⟨_, rfl, hc50⟩⟩ rfl ?_
      refine GL.skip ⟨_, rfl, .inl ⟨_, rfl, hc50⟩⟩ rfl ?_
      refine GL.skip ⟨_, rfl, .inl ⟨_, rfl, hc50⟩⟩ rfl ?_
      refine GL.skip ⟨_, rfl, .inl ⟨_, rfl, hc50⟩⟩ rfl ?_
      refine GL.val trivial rfl (OV.pickF (b := b36) (v := .bool false) rfl hc50 rfl) ?_
      exact GL.jump (fun _ _ h => h) false h ⟨rfl, rfl, rfl, trivial⟩
  intro b47 H63 h
  replace h := hR49 b47 H63 h
  refine GL.val trivial rfl (OV.move (v := .bool b47) rfl) ?_
  obtain ⟨J65, h, hR66⟩ := h
  refine GL.cut (α := Bool) 4 J65 (fun b64 => [(41, .bool b64), (4, slv r30)]) ?_ ?_
  · rcases Bool.eq_false_or_eq_true b47 with hc67 | hc67
    · skip
      replace h := And.left h hc67
      obtain ⟨x68, hr69, h⟩ := h
      refine GL.val ⟨_, _, rfl, rfl, hc67⟩ rfl (OV.loadT (p := (b13, 0)) (cs := T_api_Value.c x68) rfl rfl rfl hr69) ?_
      refine GL.call h ⟨_, _, rfl, rfl, hc67⟩ rfl ok_value_Show (vs := [.agg (T_api_Value.c x68).toArray]) rfl ?_
      rintro _ H71 ⟨r70, rfl, h⟩
      refine GL.val ⟨_, _, rfl, rfl, hc67⟩ rfl (OV.sbin (a := r70) (b := ([99, 111, 110, 115, 40, 51, 44, 32, 49, 48, 98, 41] : Str)) (v := .bool (r70 == ([99, 111, 110, 115, 40, 51, 44, 32, 49, 48, 98, 41] : Str))) rfl rfl rfl) ?_
      refine GL.val trivial rfl (OV.pickT (b := b47) (v := .bool (r70 == ([99, 111, 110, 115, 40, 51, 44, 32, 49, 48, 98, 41] : Str))) rfl hc67 rfl) ?_
      exact GL.jump (fun _ _ h => h) (r70 == ([99, 111, 110, 115, 40, 51, 44, 32, 49, 48, 98, 41] : Str)) h ⟨rfl, rfl, trivial⟩
    · skip
      replace h := And.right h hc67
      refine GL.skip ⟨_, rfl, .inl ⟨_, rfl, hc67⟩⟩ rfl ?_
      refine GL.skip ⟨_, rfl, .inl ⟨_, rfl, hc67⟩⟩ rfl ?_
      refine GL.skip ⟨_, rfl, .inl ⟨_, rfl, hc67⟩⟩ rfl ?_
      refine GL.val trivial rfl (OV.pickF (b := b47) (v := .bool false) rfl hc67 rfl) ?_
      exact GL.jump (fun _ _ h => h) false h ⟨rfl, rfl, trivial⟩
  intro b64 H72 h
  replace h := hR66 b64 H72 h
  refine GL.val trivial rfl (OV.move (v := .bool b64) rfl) ?_
  refine GL.cut0 4 [(46, .bool (b64 && (((Sl.len r30 : Int) : Int) == 2))), (4, slv r30)] ?_ ?_
  · rcases Bool.eq_false_or_eq_true b64 with hc73 | hc73
    · skip
      refine GL.val ⟨_, _, rfl, rfl, hc73⟩ rfl (OV.move (v := slv r30) rfl) ?_
      refine GL.val ⟨_, _, rfl, rfl, hc73⟩ rfl (OV.lenSl (s := r30) rfl rfl) ?_
      refine GL.val ⟨_, _, rfl, rfl, hc73⟩ rfl (OV.ibin (v := .bool (((Sl.len r30 : Int) : Int) == 2)) rfl rfl rfl) ?_
      refine GL.val trivial rfl (OV.pickT (b := b64) (v := .bool (((Sl.len r30 : Int) : Int) == 2)) rfl hc73 rfl) ?_
      exact GL.jump0 (fun _ _ h => h) () rfl ⟨(by rw [hc73]; rfl), rfl, trivial⟩
    · skip
      refine GL.skip ⟨_, rfl, .inl ⟨_, rfl, hc73⟩⟩ rfl ?_
      refine GL.skip ⟨_, rfl, .inl ⟨_, rfl, hc73⟩⟩ rfl ?_
      refine GL.skip ⟨_, rfl, .inl ⟨_, rfl, hc73⟩⟩ rfl ?_
      refine GL.val trivial rfl (OV.pickF (b := b64) (v := .bool false) rfl hc73 rfl) ?_
      exact GL.jump0 (fun _ _ h => h) () rfl ⟨(by rw [hc73]; rfl), rfl, trivial⟩
  refine GL.val trivial rfl (OV.move (v := .bool (b64 && (((Sl.len r30 : Int) : Int) == 2))) rfl) ?_
  obtain ⟨J75, h, hR76⟩ := h
  refine GL.cut (α := Bool) 6 J75 (fun b74 => [(53, .bool b74), (4, slv r30)]) ?_ ?_
  · rcases Bool.eq_false_or_eq_true (b64 && (((Sl.len r30 : Int) : Int) == 2)) with hc77 | hc77
    · skip
      replace h := And.left h hc77
      refine GL.val ⟨_, _, rfl, rfl, hc77⟩ rfl (OV.move (v := slv r30) rfl) ?_
      obtain ⟨p78, ha79, hb80, hc81, hd82, h⟩ := h
      refine GL.val ⟨_, _, rfl, rfl, hc77⟩ rfl (OV.indexAddr (s := r30) rfl rfl rfl rfl ha79 hb80 hc81 hd82) ?_
      obtain ⟨x83, hr84, h⟩ := h
      refine GL.val ⟨_, _, rfl, rfl, hc77⟩ rfl (OV.load (p := (p78.1, p78.2 + (0 : Int).toNat * 1)) rfl rfl hr84) ?_
      refine GL.val ⟨_, _, rfl, rfl, hc77⟩ rfl (OV.lenSl (s := x83) rfl rfl) ?_
      refine GL.val ⟨_, _, rfl, rfl, hc77⟩ rfl (OV.ibin (v := .bool (((Sl.len x83 : Int) : Int) == 1)) rfl rfl rfl) ?_
      refine GL.val trivial rfl (OV.pickT (b := b64 && (((Sl.len r30 : Int) : Int) == 2)) (v := .bool (((Sl.len x83 : Int) : Int) == 1)) rfl hc77 rfl) ?_
      exact GL.jump (fun _ _ h => h) (((Sl.len x83 : Int) : Int) == 1) h ⟨rfl, rfl, trivial⟩
    · skip
      replace h := And.right h hc77
      refine GL.skip ⟨_, rfl, .inl ⟨_, rfl, hc77⟩⟩ rfl ?_
      refine GL.skip ⟨_, rfl, .inl ⟨_, rfl, hc77⟩⟩ rfl ?_
      refine GL.skip ⟨_, rfl, .inl ⟨_, rfl, hc77⟩⟩ rfl ?_
      refine GL.skip ⟨_, rfl, .inl ⟨_, rfl, hc77⟩⟩ rfl ?_
      refine GL.skip ⟨_, rfl, .inl ⟨_, rfl, hc77⟩⟩ rfl ?_
      refine GL.val trivial rfl (OV.pickF (b := b64 && (((Sl.len r30 : Int) : Int) == 2)) (v := .bool false) rfl hc77 rfl) ?_
      exact GL.jump (fun _ _ h => h) false h ⟨rfl, rfl, trivial⟩
  intro b74 H85 h
  replace h := hR76 b74 H85 h
  refine GL.val trivial rfl (OV.move (v := .bool b74) rfl) ?_
  obtain ⟨J87, h, hR88⟩ := h
  refine GL.cut (α := Bool) 8 J87 (fun b86 => [(62, .bool b86)]) ?_ ?_
  · rcases Bool.eq_false_or_eq_true b74 with hc89 | hc89
    · skip
      replace h := And.left h hc89
      refine GL.val ⟨_, _, rfl, rfl, hc89⟩ rfl (OV.move (v := slv r30) rfl) ?_
      obtain ⟨p90, ha91, hb92, hc93, hd94, h⟩ := h
      refine GL.val ⟨_, _, rfl, rfl, hc89⟩ rfl (OV.indexAddr (s := r30) rfl rfl rfl rfl ha91 hb92 hc93 hd94) ?_
      obtain ⟨x95, hr96, h⟩ := h
      refine GL.val ⟨_, _, rfl, rfl, hc89⟩ rfl (OV.load (p := (p90.1, p90.2 + (0 : Int).toNat * 1)) rfl rfl hr96) ?_
      obtain ⟨p97, ha98, hb99, hc100, hd101, h⟩ := h
      refine GL.val ⟨_, _, rfl, rfl, hc89⟩ rfl (OV.indexAddr (s := x95) rfl rfl rfl rfl ha98 hb99 hc100 hd101) ?_
      refine GL.val ⟨_, _, rfl, rfl, hc89⟩ rfl (OV.fieldAddr (p := (p97.1, p97.2 + (0 : Int).toNat * 4)) rfl rfl) ?_
      obtain ⟨x102, hr103, h⟩ := h
      refine GL.val ⟨_, _, rfl, rfl, hc89⟩ rfl (OV.load (p := ((p97.1, p97.2 + (0 : Int).toNat * 4).1, (p97.1, p97.2 + (0 : Int).toNat * 4).2 + 1)) rfl rfl hr103) ?_
      refine GL.val ⟨_, _, rfl, rfl, hc89⟩ rfl (OV.ibin (v := .bool ((x102 : Int) == 3)) rfl rfl rfl) ?_
      refine GL.val trivial rfl (OV.pickT (b := b74) (v := .bool ((x102 : Int) == 3)) rfl hc89 rfl) ?_
      exact GL.jump (fun _ _ h => h) ((x102 : Int) == 3) h ⟨rfl, trivial⟩
    · skip
      replace h := And.right h hc89
      refine GL.skip ⟨_, rfl, .inl ⟨_, rfl, hc89⟩⟩ rfl ?_
      refine GL.skip ⟨_, rfl, .inl ⟨_, rfl, hc89⟩⟩ rfl ?_
      refine GL.skip ⟨_, rfl, .inl ⟨_, rfl, hc89⟩⟩ rfl ?_
      refine GL.skip ⟨_, rfl, .inl ⟨_, rfl, hc89⟩⟩ rfl ?_
      refine GL.skip ⟨_, rfl, .inl ⟨_, rfl, hc89⟩⟩ rfl ?_
      refine GL.skip ⟨_, rfl, .inl ⟨_, rfl, hc89⟩⟩ rfl ?_
      refine GL.skip ⟨_, rfl, .inl ⟨_, rfl, hc89⟩⟩ rfl ?_
      refine GL.val trivial rfl (OV.pickF (b := b74) (v := .bool false) rfl hc89 rfl) ?_
      exact GL.jump (fun _ _ h => h) false h ⟨rfl, trivial⟩
  intro b86 H104 h
  replace h := hR88 b86 H104 h
  refine GL.val trivial rfl (OV.move (v := .bool b86) rfl) ?_
  obtain ⟨J106, h, hR107⟩ := h
  refine GL.cut (α := Bool) 4 J106 (fun b105 => [(67, .bool b105)]) ?_ ?_
  · rcases Bool.eq_false_or_eq_true b86 with hc108 | hc108
    · skip
      replace h := And.left h hc108
      refine GL.val ⟨_, _, rfl, rfl, hc108⟩ rfl (OV.build (vs := []) (v := .agg (T_api_Value.c (⟨0, 0, [], Sl.nil⟩ : T_api_Value)).toArray) rfl (fun _ => by kernel_rfl)) ?_
      refine GL.call h ⟨_, _, rfl, rfl, hc108⟩ rfl ok_value_Check (vs := [.agg (T_api_Value.c (⟨0, 0, [], Sl.nil⟩ : T_api_Value)).toArray]) rfl ?_
      rintro _ H110 ⟨r109, rfl, h⟩
      refine GL.val ⟨_, _, rfl, rfl, hc108⟩ rfl (OV.ibin (v := .bool ((r109 : Int) == 4)) rfl rfl rfl) ?_
      refine GL.val trivial rfl (OV.pickT (b := b86) (v := .bool ((r109 : Int) == 4)) rfl hc108 rfl) ?_
      exact GL.jump (fun _ _ h => h) ((r109 : Int) == 4) h ⟨rfl, trivial⟩
    · skip
      replace h := And.right h hc108
      refine GL.skip ⟨_, rfl, .inl ⟨_, rfl, hc108⟩⟩ rfl ?_
      refine GL.skip ⟨_, rfl, .inl ⟨_, rfl, hc108⟩⟩ rfl ?_
      refine GL.skip ⟨_, rfl, .inl ⟨_, rfl, hc108⟩⟩ rfl ?_
      refine GL.val trivial rfl (OV.pickF (b := b86) (v := .bool false) rfl hc108 rfl) ?_
      exact GL.jump (fun _ _ h => h) false h ⟨rfl, trivial⟩
  intro b105 H111 h
  replace h := hR107 b105 H111 h
  refine GL.val trivial rfl (OV.assign (v := .bool b105) rfl) ?_
  refine GL.nil ?_
  exact GC.ret (fun _ _ hf hs => post_tmp1 rfl rfl hf hs ⟨b105, rfl, h⟩)

end Sx
end

