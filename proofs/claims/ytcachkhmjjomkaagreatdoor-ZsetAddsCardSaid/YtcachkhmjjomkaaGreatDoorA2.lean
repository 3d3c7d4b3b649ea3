/-
  Texts of this family, one behind the other: Sh1.
-/
import Derived.Test.YtcachkhmjjomkaaGreatDoorA1
import Derived.Test.YtcachkhmjjomkaaGreatDoorProg
noncomputable section
set_option linter.unusedVariables false
set_option maxRecDepth 100000
namespace Sx
open Go Go.Proofs
structure T_api_Value where
 Kind : Int
 N : Int
 S : Str
 L : Sl
def T_api_Value.c (x : T_api_Value) : List Value := [.int .u8 x.Kind, .int .i64 x.N, sv x.S, slv x.L]
def T_api_Value.zero : T_api_Value := ⟨0, 0, [], Sl.nil⟩
structure T_zset_Entry where
 Row : Sl
 N : Int
def T_zset_Entry.c (x : T_zset_Entry) : List Value := [slv x.Row, .int .i64 x.N]
def T_zset_Entry.zero : T_zset_Entry := ⟨Sl.nil, 0⟩
structure T_zset_part where
 l_ : Sl
 do_ : Value
def T_zset_part.c (x : T_zset_part) : List Value := [slv x.l_, x.do_]
def T_zset_part.zero : T_zset_part := ⟨Sl.nil, .nilFunc⟩
structure T_unicode_utf8_acceptRange where
 lo_ : Int
 hi_ : Int
def T_unicode_utf8_acceptRange.c (x : T_unicode_utf8_acceptRange) : List Value := [.int .u8 x.lo_, .int .u8 x.hi_]
def T_unicode_utf8_acceptRange.zero : T_unicode_utf8_acceptRange := ⟨0, 0⟩
theorem ok_law16_large : CallOk Tryz.prog 5 := ⟨⟨_, Tryz.func5, rfl, by decide +kernel⟩⟩
theorem ok_law16_awake : CallOk Tryz.prog 6 := ⟨⟨_, Tryz.func6, rfl, by decide +kernel⟩⟩
theorem ok_law16_given : CallOk Tryz.prog 7 := ⟨⟨_, Tryz.func7, rfl, by decide +kernel⟩⟩
theorem ok_zset_Add : CallOk Tryz.prog 8 := ⟨⟨_, Tryz.func8, rfl, by decide +kernel⟩⟩
theorem ok_ref16_Add : CallOk Tryz.prog 9 := ⟨⟨_, Tryz.func9, rfl, by decide +kernel⟩⟩
theorem ok_law16_like : CallOk Tryz.prog 10 := ⟨⟨_, Tryz.func10, rfl, by decide +kernel⟩⟩
theorem ok_zset_Less : CallOk Tryz.prog 11 := ⟨⟨_, Tryz.func11, rfl, by decide +kernel⟩⟩
theorem ok_ref16_Less : CallOk Tryz.prog 12 := ⟨⟨_, Tryz.func12, rfl, by decide +kernel⟩⟩
theorem ok_ref16_Same : CallOk Tryz.prog 13 := ⟨⟨_, Tryz.func13, rfl, by decide +kernel⟩⟩
theorem ok_law16_back : CallOk Tryz.prog 14 := ⟨⟨_, Tryz.func14, rfl, by decide +kernel⟩⟩
theorem ok_law16_weight : CallOk Tryz.prog 15 := ⟨⟨_, Tryz.func15, rfl, by decide +kernel⟩⟩
theorem ok_zset_Clean : CallOk Tryz.prog 16 := ⟨⟨_, Tryz.func16, rfl, by decide +kernel⟩⟩
theorem ok_value_CmpRows : CallOk Tryz.prog 18 := ⟨⟨_, Tryz.func18, rfl, by decide +kernel⟩⟩
theorem ok_zset_Distinct : CallOk Tryz.prog 19 := ⟨⟨_, Tryz.func19, rfl, by decide +kernel⟩⟩
theorem ok_value_Check : CallOk Tryz.prog 20 := ⟨⟨_, Tryz.func20, rfl, by decide +kernel⟩⟩
theorem ok_ref02_Own : CallOk Tryz.prog 25 := ⟨⟨_, Tryz.func25, rfl, by decide +kernel⟩⟩
theorem ok_zset_sums : CallOk Tryz.prog 26 := ⟨⟨_, Tryz.func26, rfl, by decide +kernel⟩⟩
theorem ok_zset_as : CallOk Tryz.prog 27 := ⟨⟨_, Tryz.func27, rfl, by decide +kernel⟩⟩
theorem ok_ref16_Clean : CallOk Tryz.prog 28 := ⟨⟨_, Tryz.func28, rfl, by decide +kernel⟩⟩
theorem ok_ref16_both : CallOk Tryz.prog 29 := ⟨⟨_, Tryz.func29, rfl, by decide +kernel⟩⟩
theorem ok_law16_spoil : CallOk Tryz.prog 30 := ⟨⟨_, Tryz.func30, rfl, by decide +kernel⟩⟩
theorem ok_zset_turn : CallOk Tryz.prog 31 := ⟨⟨_, Tryz.func31, rfl, by decide +kernel⟩⟩
theorem ok_ref02_SameRow : CallOk Tryz.prog 32 := ⟨⟨_, Tryz.func32, rfl, by decide +kernel⟩⟩
theorem ok_value_may : CallOk Tryz.prog 33 := ⟨⟨_, Tryz.func33, rfl, by decide +kernel⟩⟩
theorem ok_value_last : CallOk Tryz.prog 34 := ⟨⟨_, Tryz.func34, rfl, by decide +kernel⟩⟩
theorem ok_value_rows : CallOk Tryz.prog 35 := ⟨⟨_, Tryz.func35, rfl, by decide +kernel⟩⟩
theorem ok_slices_DeleteFunc_zset_Entry_zset_Entry : CallOk Tryz.prog 36 := ⟨⟨_, Tryz.func36, rfl, by decide +kernel⟩⟩
theorem ok_zset_Distinct_1 : CallOk Tryz.prog 37 := ⟨⟨_, Tryz.func37, rfl, by decide +kernel⟩⟩
theorem ok_value_depth : CallOk Tryz.prog 38 := ⟨⟨_, Tryz.func38, rfl, by decide +kernel⟩⟩
theorem ok_value_item_look : CallOk Tryz.prog 39 := ⟨⟨_, Tryz.func39, rfl, by decide +kernel⟩⟩
theorem ok_zset_each : CallOk Tryz.prog 44 := ⟨⟨_, Tryz.func44, rfl, by decide +kernel⟩⟩
theorem ok_slices_ContainsFunc_api_Value_api_Value : CallOk Tryz.prog 45 := ⟨⟨_, Tryz.func45, rfl, by decide +kernel⟩⟩
theorem ok_zset_sums_1 : CallOk Tryz.prog 46 := ⟨⟨_, Tryz.func46, rfl, by decide +kernel⟩⟩
theorem ok_zset_out : CallOk Tryz.prog 47 := ⟨⟨_, Tryz.func47, rfl, by decide +kernel⟩⟩
theorem ok_slices_SortStableFunc_zset_Entry_zset_Entry : CallOk Tryz.prog 48 := ⟨⟨_, Tryz.func48, rfl, by decide +kernel⟩⟩
theorem ok_zset_sums_2 : CallOk Tryz.prog 49 := ⟨⟨_, Tryz.func49, rfl, by decide +kernel⟩⟩
theorem ok_zset_own : CallOk Tryz.prog 50 := ⟨⟨_, Tryz.func50, rfl, by decide +kernel⟩⟩
theorem ok_ref16_Check : CallOk Tryz.prog 51 := ⟨⟨_, Tryz.func51, rfl, by decide +kernel⟩⟩
theorem ok_ref02_CmpRows : CallOk Tryz.prog 52 := ⟨⟨_, Tryz.func52, rfl, by decide +kernel⟩⟩
theorem ok_ref02_Same : CallOk Tryz.prog 53 := ⟨⟨_, Tryz.func53, rfl, by decide +kernel⟩⟩
theorem ok_value_may_1 : CallOk Tryz.prog 54 := ⟨⟨_, Tryz.func54, rfl, by decide +kernel⟩⟩
theorem ok_slices_CompareFunc_api_Value_api_Value_api_Value_api_Value : CallOk Tryz.prog 55 := ⟨⟨_, Tryz.func55, rfl, by decide +kernel⟩⟩
theorem ok_value_rows_1 : CallOk Tryz.prog 56 := ⟨⟨_, Tryz.func56, rfl, by decide +kernel⟩⟩
theorem ok_value_item_cmp : CallOk Tryz.prog 57 := ⟨⟨_, Tryz.func57, rfl, by decide +kernel⟩⟩
theorem ok_slices_IndexFunc_zset_Entry_zset_Entry : CallOk Tryz.prog 58 := ⟨⟨_, Tryz.func58, rfl, by decide +kernel⟩⟩
theorem ok_value_number : CallOk Tryz.prog 59 := ⟨⟨_, Tryz.func59, rfl, by decide +kernel⟩⟩
theorem ok_strings_Cut : CallOk Tryz.prog 60 := ⟨⟨_, Tryz.func60, rfl, by decide +kernel⟩⟩
theorem ok_value_name : CallOk Tryz.prog 61 := ⟨⟨_, Tryz.func61, rfl, by decide +kernel⟩⟩
theorem ok_slices_Clone_api_Value_api_Value : CallOk Tryz.prog 62 := ⟨⟨_, Tryz.func62, rfl, by decide +kernel⟩⟩
theorem ok_zset_each_1 : CallOk Tryz.prog 64 := ⟨⟨_, Tryz.func64, rfl, by decide +kernel⟩⟩
theorem ok_slices_IndexFunc_api_Value_api_Value : CallOk Tryz.prog 65 := ⟨⟨_, Tryz.func65, rfl, by decide +kernel⟩⟩
theorem ok_slices_stableCmpFunc_zset_Entry : CallOk Tryz.prog 66 := ⟨⟨_, Tryz.func66, rfl, by decide +kernel⟩⟩
theorem ok_ref02_Row : CallOk Tryz.prog 67 := ⟨⟨_, Tryz.func67, rfl, by decide +kernel⟩⟩
theorem ok_ref02_last : CallOk Tryz.prog 68 := ⟨⟨_, Tryz.func68, rfl, by decide +kernel⟩⟩
theorem ok_ref02_rows : CallOk Tryz.prog 69 := ⟨⟨_, Tryz.func69, rfl, by decide +kernel⟩⟩
theorem ok_cmp_Compare_uint8 : CallOk Tryz.prog 70 := ⟨⟨_, Tryz.func70, rfl, by decide +kernel⟩⟩
theorem ok_value_bigs : CallOk Tryz.prog 71 := ⟨⟨_, Tryz.func71, rfl, by decide +kernel⟩⟩
theorem ok_cmp_Compare_string : CallOk Tryz.prog 72 := ⟨⟨_, Tryz.func72, rfl, by decide +kernel⟩⟩
theorem ok_cmp_Or_int : CallOk Tryz.prog 73 := ⟨⟨_, Tryz.func73, rfl, by decide +kernel⟩⟩
theorem ok_cmp_Compare_int64 : CallOk Tryz.prog 74 := ⟨⟨_, Tryz.func74, rfl, by decide +kernel⟩⟩
theorem ok_strings_TrimPrefix : CallOk Tryz.prog 75 := ⟨⟨_, Tryz.func75, rfl, by decide +kernel⟩⟩
theorem ok_strings_Trim : CallOk Tryz.prog 76 := ⟨⟨_, Tryz.func76, rfl, by decide +kernel⟩⟩
theorem ok_internal_stringslite_Cut : CallOk Tryz.prog 77 := ⟨⟨_, Tryz.func77, rfl, by decide +kernel⟩⟩
theorem ok_slices_insertionSortCmpFunc_zset_Entry : CallOk Tryz.prog 80 := ⟨⟨_, Tryz.func80, rfl, by decide +kernel⟩⟩
theorem ok_slices_symMergeCmpFunc_zset_Entry : CallOk Tryz.prog 81 := ⟨⟨_, Tryz.func81, rfl, by decide +kernel⟩⟩
theorem ok_ref02_Check : CallOk Tryz.prog 82 := ⟨⟨_, Tryz.func82, rfl, by decide +kernel⟩⟩
theorem ok_ref02_cmp : CallOk Tryz.prog 83 := ⟨⟨_, Tryz.func83, rfl, by decide +kernel⟩⟩
theorem ok_ref02_ints : CallOk Tryz.prog 84 := ⟨⟨_, Tryz.func84, rfl, by decide +kernel⟩⟩
theorem ok_cmp_isNaN_uint8 : CallOk Tryz.prog 85 := ⟨⟨_, Tryz.func85, rfl, by decide +kernel⟩⟩
theorem ok_strings_HasPrefix : CallOk Tryz.prog 86 := ⟨⟨_, Tryz.func86, rfl, by decide +kernel⟩⟩
theorem ok_cmp_Compare_int : CallOk Tryz.prog 87 := ⟨⟨_, Tryz.func87, rfl, by decide +kernel⟩⟩
theorem ok_cmp_isNaN_string : CallOk Tryz.prog 88 := ⟨⟨_, Tryz.func88, rfl, by decide +kernel⟩⟩
theorem ok_cmp_isNaN_int64 : CallOk Tryz.prog 89 := ⟨⟨_, Tryz.func89, rfl, by decide +kernel⟩⟩
theorem ok_internal_stringslite_TrimPrefix : CallOk Tryz.prog 90 := ⟨⟨_, Tryz.func90, rfl, by decide +kernel⟩⟩
theorem ok_strings_trimLeftByte : CallOk Tryz.prog 91 := ⟨⟨_, Tryz.func91, rfl, by decide +kernel⟩⟩
theorem ok_strings_trimRightByte : CallOk Tryz.prog 92 := ⟨⟨_, Tryz.func92, rfl, by decide +kernel⟩⟩
theorem ok_strings_makeASCIISet : CallOk Tryz.prog 93 := ⟨⟨_, Tryz.func93, rfl, by decide +kernel⟩⟩
theorem ok_strings_trimLeftASCII : CallOk Tryz.prog 94 := ⟨⟨_, Tryz.func94, rfl, by decide +kernel⟩⟩
theorem ok_strings_trimRightASCII : CallOk Tryz.prog 95 := ⟨⟨_, Tryz.func95, rfl, by decide +kernel⟩⟩
theorem ok_strings_trimLeftUnicode : CallOk Tryz.prog 96 := ⟨⟨_, Tryz.func96, rfl, by decide +kernel⟩⟩
theorem ok_strings_trimRightUnicode : CallOk Tryz.prog 97 := ⟨⟨_, Tryz.func97, rfl, by decide +kernel⟩⟩
theorem ok_internal_stringslite_Index : CallOk Tryz.prog 98 := ⟨⟨_, Tryz.func98, rfl, by decide +kernel⟩⟩
theorem ok_slices_rotateCmpFunc_zset_Entry : CallOk Tryz.prog 100 := ⟨⟨_, Tryz.func100, rfl, by decide +kernel⟩⟩
theorem ok_ref02_Depth : CallOk Tryz.prog 101 := ⟨⟨_, Tryz.func101, rfl, by decide +kernel⟩⟩
theorem ok_ref02_form : CallOk Tryz.prog 102 := ⟨⟨_, Tryz.func102, rfl, by decide +kernel⟩⟩
theorem ok_ref02_fits : CallOk Tryz.prog 103 := ⟨⟨_, Tryz.func103, rfl, by decide +kernel⟩⟩
theorem ok_ref02_Bigs : CallOk Tryz.prog 104 := ⟨⟨_, Tryz.func104, rfl, by decide +kernel⟩⟩
theorem ok_ref02_texts : CallOk Tryz.prog 105 := ⟨⟨_, Tryz.func105, rfl, by decide +kernel⟩⟩
theorem ok_internal_stringslite_HasPrefix : CallOk Tryz.prog 106 := ⟨⟨_, Tryz.func106, rfl, by decide +kernel⟩⟩
theorem ok_cmp_isNaN_int : CallOk Tryz.prog 107 := ⟨⟨_, Tryz.func107, rfl, by decide +kernel⟩⟩
theorem ok_strings_asciiSet_contains : CallOk Tryz.prog 108 := ⟨⟨_, Tryz.func108, rfl, by decide +kernel⟩⟩
theorem ok_internal_stringslite_IndexByte : CallOk Tryz.prog 112 := ⟨⟨_, Tryz.func112, rfl, by decide +kernel⟩⟩
theorem ok_internal_bytealg_Cutover : CallOk Tryz.prog 114 := ⟨⟨_, Tryz.func114, rfl, by decide +kernel⟩⟩
theorem ok_internal_bytealg_IndexRabinKarp_string : CallOk Tryz.prog 115 := ⟨⟨_, Tryz.func115, rfl, by decide +kernel⟩⟩
theorem ok_slices_swapRangeCmpFunc_zset_Entry : CallOk Tryz.prog 117 := ⟨⟨_, Tryz.func117, rfl, by decide +kernel⟩⟩
theorem ok_ref02_Number : CallOk Tryz.prog 118 := ⟨⟨_, Tryz.func118, rfl, by decide +kernel⟩⟩
theorem ok_ref02_Names : CallOk Tryz.prog 119 := ⟨⟨_, Tryz.func119, rfl, by decide +kernel⟩⟩
theorem ok_ref02_Digits : CallOk Tryz.prog 120 := ⟨⟨_, Tryz.func120, rfl, by decide +kernel⟩⟩
theorem ok_ref02_Name : CallOk Tryz.prog 126 := ⟨⟨_, Tryz.func126, rfl, by decide +kernel⟩⟩
theorem ok_ref02_letter : CallOk Tryz.prog 129 := ⟨⟨_, Tryz.func129, rfl, by decide +kernel⟩⟩
theorem ext_internal_bytealg_IndexByteString : ExtOk Tryz.prog 124 Extern.BytealgIndexByte.indexByte := ⟨⟨_, Tryz.func124, by kernel_rfl, by kernel_rfl, by kernel_rfl, by kernel_rfl⟩⟩
def c_law16_ZsetAdds (C : Ctx) (p_l : Sl) (p_m : Sl) (K : Bool → Heap → Prop) (H : Heap) : Prop :=
 Spec Tryz.prog C 3 [slv p_l, slv p_m] H (fun v H2 => ∃ (r0 : Bool), v = .bool r0 ∧ K r0 H2)
theorem c_law16_ZsetAdds.mono {C : Ctx} {p_l : Sl} {p_m : Sl} {K K2 : Bool → Heap → Prop} {H : Heap} (h : c_law16_ZsetAdds C p_l p_m K H) (hk : ∀ r0 H2, K r0 H2 → K2 r0 H2) : c_law16_ZsetAdds C p_l p_m K2 H :=
 Spec.mono h fun _ H2 ⟨r0, hv, h2⟩ => ⟨r0, hv, hk r0 H2 h2⟩
theorem c_law16_ZsetAdds.gh {C : Ctx} {p_l : Sl} {p_m : Sl} {K : Bool → Heap → Prop} {H : Heap} (h : c_law16_ZsetAdds C p_l p_m (fun r0 H2 => ∃ H0, Gh C H2 H0 ∧ K r0 H0) H) : c_law16_ZsetAdds C p_l p_m K H :=
 Spec.gh (Spec.mono h fun _ H2 ⟨r0, hv, H0, hg, hk⟩ => ⟨H0, hg, r0, hv, hk⟩)
def c_law16_large (C : Ctx) (p_l : Sl) (K : Bool → Heap → Prop) (H : Heap) : Prop :=
 Spec Tryz.prog C 5 [slv p_l] H (fun v H2 => ∃ (r0 : Bool), v = .bool r0 ∧ K r0 H2)
theorem c_law16_large.mono {C : Ctx} {p_l : Sl} {K K2 : Bool → Heap → Prop} {H : Heap} (h : c_law16_large C p_l K H) (hk : ∀ r0 H2, K r0 H2 → K2 r0 H2) : c_law16_large C p_l K2 H :=
 Spec.mono h fun _ H2 ⟨r0, hv, h2⟩ => ⟨r0, hv, hk r0 H2 h2⟩
theorem c_law16_large.gh {C : Ctx} {p_l : Sl} {K : Bool → Heap → Prop} {H : Heap} (h : c_law16_large C p_l (fun r0 H2 => ∃ H0, Gh C H2 H0 ∧ K r0 H0) H) : c_law16_large C p_l K H :=
 Spec.gh (Spec.mono h fun _ H2 ⟨r0, hv, H0, hg, hk⟩ => ⟨H0, hg, r0, hv, hk⟩)
def c_law16_awake (C : Ctx) (K : Bool → Heap → Prop) (H : Heap) : Prop :=
 Spec Tryz.prog C 6 [] H (fun v H2 => ∃ (r0 : Bool), v = .bool r0 ∧ K r0 H2)
theorem c_law16_awake.mono {C : Ctx} {K K2 : Bool → Heap → Prop} {H : Heap} (h : c_law16_awake C  K H) (hk : ∀ r0 H2, K r0 H2 → K2 r0 H2) : c_law16_awake C  K2 H :=
 Spec.mono h fun _ H2 ⟨r0, hv, h2⟩ => ⟨r0, hv, hk r0 H2 h2⟩
theorem c_law16_awake.gh {C : Ctx} {K : Bool → Heap → Prop} {H : Heap} (h : c_law16_awake C  (fun r0 H2 => ∃ H0, Gh C H2 H0 ∧ K r0 H0) H) : c_law16_awake C  K H :=
 Spec.gh (Spec.mono h fun _ H2 ⟨r0, hv, H0, hg, hk⟩ => ⟨H0, hg, r0, hv, hk⟩)
def c_law16_given (C : Ctx) (p_l : Sl) (K : Sl → Heap → Prop) (H : Heap) : Prop :=
 Spec Tryz.prog C 7 [slv p_l] H (fun v H2 => ∃ (r0 : Sl), v = slv r0 ∧ K r0 H2)
theorem c_law16_given.mono {C : Ctx} {p_l : Sl} {K K2 : Sl → Heap → Prop} {H : Heap} (h : c_law16_given C p_l K H) (hk : ∀ r0 H2, K r0 H2 → K2 r0 H2) : c_law16_given C p_l K2 H :=
 Spec.mono h fun _ H2 ⟨r0, hv, h2⟩ => ⟨r0, hv, hk r0 H2 h2⟩
theorem c_law16_given.gh {C : Ctx} {p_l : Sl} {K : Sl → Heap → Prop} {H : Heap} (h : c_law16_given C p_l (fun r0 H2 => ∃ H0, Gh C H2 H0 ∧ K r0 H0) H) : c_law16_given C p_l K H :=
 Spec.gh (Spec.mono h fun _ H2 ⟨r0, hv, H0, hg, hk⟩ => ⟨H0, hg, r0, hv, hk⟩)
def c_zset_Add (C : Ctx) (p_a : Sl) (p_b : Sl) (K : Sl → Int → Heap → Prop) (H : Heap) : Prop :=
 Spec Tryz.prog C 8 [slv p_a, slv p_b] H (fun v H2 => ∃ (r0 : Sl) (r1 : Int), v = .tuple #[slv r0, .int .i64 r1] ∧ K r0 r1 H2)
theorem c_zset_Add.mono {C : Ctx} {p_a : Sl} {p_b : Sl} {K K2 : Sl → Int → Heap → Prop} {H : Heap} (h : c_zset_Add C p_a p_b K H) (hk : ∀ r0 r1 H2, K r0 r1 H2 → K2 r0 r1 H2) : c_zset_Add C p_a p_b K2 H :=
 Spec.mono h fun _ H2 ⟨r0, r1, hv, h2⟩ => ⟨r0, r1, hv, hk r0 r1 H2 h2⟩
theorem c_zset_Add.gh {C : Ctx} {p_a : Sl} {p_b : Sl} {K : Sl → Int → Heap → Prop} {H : Heap} (h : c_zset_Add C p_a p_b (fun r0 r1 H2 => ∃ H0, Gh C H2 H0 ∧ K r0 r1 H0) H) : c_zset_Add C p_a p_b K H :=
 Spec.gh (Spec.mono h fun _ H2 ⟨r0, r1, hv, H0, hg, hk⟩ => ⟨H0, hg, r0, r1, hv, hk⟩)
def c_ref16_Add (C : Ctx) (p_a : Sl) (p_b : Sl) (K : Sl → Int → Heap → Prop) (H : Heap) : Prop :=
 Spec Tryz.prog C 9 [slv p_a, slv p_b] H (fun v H2 => ∃ (r0 : Sl) (r1 : Int), v = .tuple #[slv r0, .int .i64 r1] ∧ K r0 r1 H2)
theorem c_ref16_Add.mono {C : Ctx} {p_a : Sl} {p_b : Sl} {K K2 : Sl → Int → Heap → Prop} {H : Heap} (h : c_ref16_Add C p_a p_b K H) (hk : ∀ r0 r1 H2, K r0 r1 H2 → K2 r0 r1 H2) : c_ref16_Add C p_a p_b K2 H :=
 Spec.mono h fun _ H2 ⟨r0, r1, hv, h2⟩ => ⟨r0, r1, hv, hk r0 r1 H2 h2⟩
theorem c_ref16_Add.gh {C : Ctx} {p_a : Sl} {p_b : Sl} {K : Sl → Int → Heap → Prop} {H : Heap} (h : c_ref16_Add C p_a p_b (fun r0 r1 H2 => ∃ H0, Gh C H2 H0 ∧ K r0 r1 H0) H) : c_ref16_Add C p_a p_b K H :=
 Spec.gh (Spec.mono h fun _ H2 ⟨r0, r1, hv, H0, hg, hk⟩ => ⟨H0, hg, r0, r1, hv, hk⟩)
def c_law16_like (C : Ctx) (p_got : Sl) (p_e : Int) (p_want : Sl) (p_f : Int) (K : Bool → Heap → Prop) (H : Heap) : Prop :=
 Spec Tryz.prog C 10 [slv p_got, .int .i64 p_e, slv p_want, .int .i64 p_f] H (fun v H2 => ∃ (r0 : Bool), v = .bool r0 ∧ K r0 H2)
theorem c_law16_like.mono {C : Ctx} {p_got : Sl} {p_e : Int} {p_want : Sl} {p_f : Int} {K K2 : Bool → Heap → Prop} {H : Heap} (h : c_law16_like C p_got p_e p_want p_f K H) (hk : ∀ r0 H2, K r0 H2 → K2 r0 H2) : c_law16_like C p_got p_e p_want p_f K2 H :=
 Spec.mono h fun _ H2 ⟨r0, hv, h2⟩ => ⟨r0, hv, hk r0 H2 h2⟩
theorem c_law16_like.gh {C : Ctx} {p_got : Sl} {p_e : Int} {p_want : Sl} {p_f : Int} {K : Bool → Heap → Prop} {H : Heap} (h : c_law16_like C p_got p_e p_want p_f (fun r0 H2 => ∃ H0, Gh C H2 H0 ∧ K r0 H0) H) : c_law16_like C p_got p_e p_want p_f K H :=
 Spec.gh (Spec.mono h fun _ H2 ⟨r0, hv, H0, hg, hk⟩ => ⟨H0, hg, r0, hv, hk⟩)
def c_zset_Less (C : Ctx) (p_a : Sl) (p_b : Sl) (K : Sl → Int → Heap → Prop) (H : Heap) : Prop :=
 Spec Tryz.prog C 11 [slv p_a, slv p_b] H (fun v H2 => ∃ (r0 : Sl) (r1 : Int), v = .tuple #[slv r0, .int .i64 r1] ∧ K r0 r1 H2)
theorem c_zset_Less.mono {C : Ctx} {p_a : Sl} {p_b : Sl} {K K2 : Sl → Int → Heap → Prop} {H : Heap} (h : c_zset_Less C p_a p_b K H) (hk : ∀ r0 r1 H2, K r0 r1 H2 → K2 r0 r1 H2) : c_zset_Less C p_a p_b K2 H :=
 Spec.mono h fun _ H2 ⟨r0, r1, hv, h2⟩ => ⟨r0, r1, hv, hk r0 r1 H2 h2⟩
theorem c_zset_Less.gh {C : Ctx} {p_a : Sl} {p_b : Sl} {K : Sl → Int → Heap → Prop} {H : Heap} (h : c_zset_Less C p_a p_b (fun r0 r1 H2 => ∃ H0, Gh C H2 H0 ∧ K r0 r1 H0) H) : c_zset_Less C p_a p_b K H :=
 Spec.gh (Spec.mono h fun _ H2 ⟨r0, r1, hv, H0, hg, hk⟩ => ⟨H0, hg, r0, r1, hv, hk⟩)
def c_ref16_Less (C : Ctx) (p_a : Sl) (p_b : Sl) (K : Sl → Int → Heap → Prop) (H : Heap) : Prop :=
 Spec Tryz.prog C 12 [slv p_a, slv p_b] H (fun v H2 => ∃ (r0 : Sl) (r1 : Int), v = .tuple #[slv r0, .int .i64 r1] ∧ K r0 r1 H2)
theorem c_ref16_Less.mono {C : Ctx} {p_a : Sl} {p_b : Sl} {K K2 : Sl → Int → Heap → Prop} {H : Heap} (h : c_ref16_Less C p_a p_b K H) (hk : ∀ r0 r1 H2, K r0 r1 H2 → K2 r0 r1 H2) : c_ref16_Less C p_a p_b K2 H :=
 Spec.mono h fun _ H2 ⟨r0, r1, hv, h2⟩ => ⟨r0, r1, hv, hk r0 r1 H2 h2⟩
theorem c_ref16_Less.gh {C : Ctx} {p_a : Sl} {p_b : Sl} {K : Sl → Int → Heap → Prop} {H : Heap} (h : c_ref16_Less C p_a p_b (fun r0 r1 H2 => ∃ H0, Gh C H2 H0 ∧ K r0 r1 H0) H) : c_ref16_Less C p_a p_b K H :=
 Spec.gh (Spec.mono h fun _ H2 ⟨r0, r1, hv, H0, hg, hk⟩ => ⟨H0, hg, r0, r1, hv, hk⟩)
def c_ref16_Same (C : Ctx) (p_a : Sl) (p_b : Sl) (K : Bool → Heap → Prop) (H : Heap) : Prop :=
 Spec Tryz.prog C 13 [slv p_a, slv p_b] H (fun v H2 => ∃ (r0 : Bool), v = .bool r0 ∧ K r0 H2)
theorem c_ref16_Same.mono {C : Ctx} {p_a : Sl} {p_b : Sl} {K K2 : Bool → Heap → Prop} {H : Heap} (h : c_ref16_Same C p_a p_b K H) (hk : ∀ r0 H2, K r0 H2 → K2 r0 H2) : c_ref16_Same C p_a p_b K2 H :=
 Spec.mono h fun _ H2 ⟨r0, hv, h2⟩ => ⟨r0, hv, hk r0 H2 h2⟩
theorem c_ref16_Same.gh {C : Ctx} {p_a : Sl} {p_b : Sl} {K : Bool → Heap → Prop} {H : Heap} (h : c_ref16_Same C p_a p_b (fun r0 H2 => ∃ H0, Gh C H2 H0 ∧ K r0 H0) H) : c_ref16_Same C p_a p_b K H :=
 Spec.gh (Spec.mono h fun _ H2 ⟨r0, hv, H0, hg, hk⟩ => ⟨H0, hg, r0, hv, hk⟩)
def c_law16_back (C : Ctx) (p_l : Sl) (K : Sl → Heap → Prop) (H : Heap) : Prop :=
 Spec Tryz.prog C 14 [slv p_l] H (fun v H2 => ∃ (r0 : Sl), v = slv r0 ∧ K r0 H2)
theorem c_law16_back.mono {C : Ctx} {p_l : Sl} {K K2 : Sl → Heap → Prop} {H : Heap} (h : c_law16_back C p_l K H) (hk : ∀ r0 H2, K r0 H2 → K2 r0 H2) : c_law16_back C p_l K2 H :=
 Spec.mono h fun _ H2 ⟨r0, hv, h2⟩ => ⟨r0, hv, hk r0 H2 h2⟩
theorem c_law16_back.gh {C : Ctx} {p_l : Sl} {K : Sl → Heap → Prop} {H : Heap} (h : c_law16_back C p_l (fun r0 H2 => ∃ H0, Gh C H2 H0 ∧ K r0 H0) H) : c_law16_back C p_l K H :=
 Spec.gh (Spec.mono h fun _ H2 ⟨r0, hv, H0, hg, hk⟩ => ⟨H0, hg, r0, hv, hk⟩)
def c_law16_weight (C : Ctx) (p_v : T_api_Value) (p_most : Int) (K : Int → Heap → Prop) (H : Heap) : Prop :=
 Spec Tryz.prog C 15 [.agg (T_api_Value.c p_v).toArray, .int .i64 p_most] H (fun v H2 => ∃ (r0 : Int), v = .int .i64 r0 ∧ K r0 H2)
theorem c_law16_weight.mono {C : Ctx} {p_v : T_api_Value} {p_most : Int} {K K2 : Int → Heap → Prop} {H : Heap} (h : c_law16_weight C p_v p_most K H) (hk : ∀ r0 H2, K r0 H2 → K2 r0 H2) : c_law16_weight C p_v p_most K2 H :=
 Spec.mono h fun _ H2 ⟨r0, hv, h2⟩ => ⟨r0, hv, hk r0 H2 h2⟩
theorem c_law16_weight.gh {C : Ctx} {p_v : T_api_Value} {p_most : Int} {K : Int → Heap → Prop} {H : Heap} (h : c_law16_weight C p_v p_most (fun r0 H2 => ∃ H0, Gh C H2 H0 ∧ K r0 H0) H) : c_law16_weight C p_v p_most K H :=
 Spec.gh (Spec.mono h fun _ H2 ⟨r0, hv, H0, hg, hk⟩ => ⟨H0, hg, r0, hv, hk⟩)
def c_zset_Clean (C : Ctx) (p_l : Sl) (K : Sl → Int → Heap → Prop) (H : Heap) : Prop :=
 Spec Tryz.prog C 16 [slv p_l] H (fun v H2 => ∃ (r0 : Sl) (r1 : Int), v = .tuple #[slv r0, .int .i64 r1] ∧ K r0 r1 H2)
theorem c_zset_Clean.mono {C : Ctx} {p_l : Sl} {K K2 : Sl → Int → Heap → Prop} {H : Heap} (h : c_zset_Clean C p_l K H) (hk : ∀ r0 r1 H2, K r0 r1 H2 → K2 r0 r1 H2) : c_zset_Clean C p_l K2 H :=
 Spec.mono h fun _ H2 ⟨r0, r1, hv, h2⟩ => ⟨r0, r1, hv, hk r0 r1 H2 h2⟩
theorem c_zset_Clean.gh {C : Ctx} {p_l : Sl} {K : Sl → Int → Heap → Prop} {H : Heap} (h : c_zset_Clean C p_l (fun r0 r1 H2 => ∃ H0, Gh C H2 H0 ∧ K r0 r1 H0) H) : c_zset_Clean C p_l K H :=
 Spec.gh (Spec.mono h fun _ H2 ⟨r0, r1, hv, H0, hg, hk⟩ => ⟨H0, hg, r0, r1, hv, hk⟩)
def c_value_CmpRows (C : Ctx) (p_a : Sl) (p_b : Sl) (K : Int → Heap → Prop) (H : Heap) : Prop :=
 Spec Tryz.prog C 18 [slv p_a, slv p_b] H (fun v H2 => ∃ (r0 : Int), v = .int .i64 r0 ∧ K r0 H2)
theorem c_value_CmpRows.mono {C : Ctx} {p_a : Sl} {p_b : Sl} {K K2 : Int → Heap → Prop} {H : Heap} (h : c_value_CmpRows C p_a p_b K H) (hk : ∀ r0 H2, K r0 H2 → K2 r0 H2) : c_value_CmpRows C p_a p_b K2 H :=
 Spec.mono h fun _ H2 ⟨r0, hv, h2⟩ => ⟨r0, hv, hk r0 H2 h2⟩
theorem c_value_CmpRows.gh {C : Ctx} {p_a : Sl} {p_b : Sl} {K : Int → Heap → Prop} {H : Heap} (h : c_value_CmpRows C p_a p_b (fun r0 H2 => ∃ H0, Gh C H2 H0 ∧ K r0 H0) H) : c_value_CmpRows C p_a p_b K H :=
 Spec.gh (Spec.mono h fun _ H2 ⟨r0, hv, H0, hg, hk⟩ => ⟨H0, hg, r0, hv, hk⟩)
def c_zset_Distinct (C : Ctx) (p_l : Sl) (K : Sl → Int → Heap → Prop) (H : Heap) : Prop :=
 Spec Tryz.prog C 19 [slv p_l] H (fun v H2 => ∃ (r0 : Sl) (r1 : Int), v = .tuple #[slv r0, .int .i64 r1] ∧ K r0 r1 H2)
theorem c_zset_Distinct.mono {C : Ctx} {p_l : Sl} {K K2 : Sl → Int → Heap → Prop} {H : Heap} (h : c_zset_Distinct C p_l K H) (hk : ∀ r0 r1 H2, K r0 r1 H2 → K2 r0 r1 H2) : c_zset_Distinct C p_l K2 H :=
 Spec.mono h fun _ H2 ⟨r0, r1, hv, h2⟩ => ⟨r0, r1, hv, hk r0 r1 H2 h2⟩
theorem c_zset_Distinct.gh {C : Ctx} {p_l : Sl} {K : Sl → Int → Heap → Prop} {H : Heap} (h : c_zset_Distinct C p_l (fun r0 r1 H2 => ∃ H0, Gh C H2 H0 ∧ K r0 r1 H0) H) : c_zset_Distinct C p_l K H :=
 Spec.gh (Spec.mono h fun _ H2 ⟨r0, r1, hv, H0, hg, hk⟩ => ⟨H0, hg, r0, r1, hv, hk⟩)
def c_value_Check (C : Ctx) (p_v : T_api_Value) (K : Int → Heap → Prop) (H : Heap) : Prop :=
 Spec Tryz.prog C 20 [.agg (T_api_Value.c p_v).toArray] H (fun v H2 => ∃ (r0 : Int), v = .int .i64 r0 ∧ K r0 H2)
theorem c_value_Check.mono {C : Ctx} {p_v : T_api_Value} {K K2 : Int → Heap → Prop} {H : Heap} (h : c_value_Check C p_v K H) (hk : ∀ r0 H2, K r0 H2 → K2 r0 H2) : c_value_Check C p_v K2 H :=
 Spec.mono h fun _ H2 ⟨r0, hv, h2⟩ => ⟨r0, hv, hk r0 H2 h2⟩
theorem c_value_Check.gh {C : Ctx} {p_v : T_api_Value} {K : Int → Heap → Prop} {H : Heap} (h : c_value_Check C p_v (fun r0 H2 => ∃ H0, Gh C H2 H0 ∧ K r0 H0) H) : c_value_Check C p_v K H :=
 Spec.gh (Spec.mono h fun _ H2 ⟨r0, hv, H0, hg, hk⟩ => ⟨H0, hg, r0, hv, hk⟩)
def c_ref02_Own (C : Ctx) (p_l : Sl) (K : Sl → Heap → Prop) (H : Heap) : Prop :=
 Spec Tryz.prog C 25 [slv p_l] H (fun v H2 => ∃ (r0 : Sl), v = slv r0 ∧ K r0 H2)
theorem c_ref02_Own.mono {C : Ctx} {p_l : Sl} {K K2 : Sl → Heap → Prop} {H : Heap} (h : c_ref02_Own C p_l K H) (hk : ∀ r0 H2, K r0 H2 → K2 r0 H2) : c_ref02_Own C p_l K2 H :=
 Spec.mono h fun _ H2 ⟨r0, hv, h2⟩ => ⟨r0, hv, hk r0 H2 h2⟩
theorem c_ref02_Own.gh {C : Ctx} {p_l : Sl} {K : Sl → Heap → Prop} {H : Heap} (h : c_ref02_Own C p_l (fun r0 H2 => ∃ H0, Gh C H2 H0 ∧ K r0 H0) H) : c_ref02_Own C p_l K H :=
 Spec.gh (Spec.mono h fun _ H2 ⟨r0, hv, H0, hg, hk⟩ => ⟨H0, hg, r0, hv, hk⟩)
def c_zset_sums (C : Ctx) (p_parts : Sl) (K : Sl → Int → Heap → Prop) (H : Heap) : Prop :=
 Spec Tryz.prog C 26 [slv p_parts] H (fun v H2 => ∃ (r0 : Sl) (r1 : Int), v = .tuple #[slv r0, .int .i64 r1] ∧ K r0 r1 H2)
theorem c_zset_sums.mono {C : Ctx} {p_parts : Sl} {K K2 : Sl → Int → Heap → Prop} {H : Heap} (h : c_zset_sums C p_parts K H) (hk : ∀ r0 r1 H2, K r0 r1 H2 → K2 r0 r1 H2) : c_zset_sums C p_parts K2 H :=
 Spec.mono h fun _ H2 ⟨r0, r1, hv, h2⟩ => ⟨r0, r1, hv, hk r0 r1 H2 h2⟩
theorem c_zset_sums.gh {C : Ctx} {p_parts : Sl} {K : Sl → Int → Heap → Prop} {H : Heap} (h : c_zset_sums C p_parts (fun r0 r1 H2 => ∃ H0, Gh C H2 H0 ∧ K r0 r1 H0) H) : c_zset_sums C p_parts K H :=
 Spec.gh (Spec.mono h fun _ H2 ⟨r0, r1, hv, H0, hg, hk⟩ => ⟨H0, hg, r0, r1, hv, hk⟩)
def c_zset_as (C : Ctx) (p_n : Int) (K : Int → Heap → Prop) (H : Heap) : Prop :=
 Spec Tryz.prog C 27 [.int .i64 p_n] H (fun v H2 => ∃ (r0 : Int), v = .int .i64 r0 ∧ K r0 H2)
theorem c_zset_as.mono {C : Ctx} {p_n : Int} {K K2 : Int → Heap → Prop} {H : Heap} (h : c_zset_as C p_n K H) (hk : ∀ r0 H2, K r0 H2 → K2 r0 H2) : c_zset_as C p_n K2 H :=
 Spec.mono h fun _ H2 ⟨r0, hv, h2⟩ => ⟨r0, hv, hk r0 H2 h2⟩
theorem c_zset_as.gh {C : Ctx} {p_n : Int} {K : Int → Heap → Prop} {H : Heap} (h : c_zset_as C p_n (fun r0 H2 => ∃ H0, Gh C H2 H0 ∧ K r0 H0) H) : c_zset_as C p_n K H :=
 Spec.gh (Spec.mono h fun _ H2 ⟨r0, hv, H0, hg, hk⟩ => ⟨H0, hg, r0, hv, hk⟩)
def c_ref16_Clean (C : Ctx) (p_l : Sl) (K : Sl → Int → Heap → Prop) (H : Heap) : Prop :=
 Spec Tryz.prog C 28 [slv p_l] H (fun v H2 => ∃ (r0 : Sl) (r1 : Int), v = .tuple #[slv r0, .int .i64 r1] ∧ K r0 r1 H2)
theorem c_ref16_Clean.mono {C : Ctx} {p_l : Sl} {K K2 : Sl → Int → Heap → Prop} {H : Heap} (h : c_ref16_Clean C p_l K H) (hk : ∀ r0 r1 H2, K r0 r1 H2 → K2 r0 r1 H2) : c_ref16_Clean C p_l K2 H :=
 Spec.mono h fun _ H2 ⟨r0, r1, hv, h2⟩ => ⟨r0, r1, hv, hk r0 r1 H2 h2⟩
theorem c_ref16_Clean.gh {C : Ctx} {p_l : Sl} {K : Sl → Int → Heap → Prop} {H : Heap} (h : c_ref16_Clean C p_l (fun r0 r1 H2 => ∃ H0, Gh C H2 H0 ∧ K r0 r1 H0) H) : c_ref16_Clean C p_l K H :=
 Spec.gh (Spec.mono h fun _ H2 ⟨r0, r1, hv, H0, hg, hk⟩ => ⟨H0, hg, r0, r1, hv, hk⟩)
def c_ref16_both (C : Ctx) (p_a : Sl) (p_b : Sl) (p_turn : Bool) (K : Sl → Heap → Prop) (H : Heap) : Prop :=
 Spec Tryz.prog C 29 [slv p_a, slv p_b, .bool p_turn] H (fun v H2 => ∃ (r0 : Sl), v = slv r0 ∧ K r0 H2)
theorem c_ref16_both.mono {C : Ctx} {p_a : Sl} {p_b : Sl} {p_turn : Bool} {K K2 : Sl → Heap → Prop} {H : Heap} (h : c_ref16_both C p_a p_b p_turn K H) (hk : ∀ r0 H2, K r0 H2 → K2 r0 H2) : c_ref16_both C p_a p_b p_turn K2 H :=
 Spec.mono h fun _ H2 ⟨r0, hv, h2⟩ => ⟨r0, hv, hk r0 H2 h2⟩
theorem c_ref16_both.gh {C : Ctx} {p_a : Sl} {p_b : Sl} {p_turn : Bool} {K : Sl → Heap → Prop} {H : Heap} (h : c_ref16_both C p_a p_b p_turn (fun r0 H2 => ∃ H0, Gh C H2 H0 ∧ K r0 H0) H) : c_ref16_both C p_a p_b p_turn K H :=
 Spec.gh (Spec.mono h fun _ H2 ⟨r0, hv, H0, hg, hk⟩ => ⟨H0, hg, r0, hv, hk⟩)
def c_law16_spoil (C : Ctx) (p_l : Sl) (K : Heap → Prop) (H : Heap) : Prop :=
 Spec Tryz.prog C 30 [slv p_l] H (fun v H2 => v = .tuple #[] ∧ K H2)
theorem c_law16_spoil.mono {C : Ctx} {p_l : Sl} {K K2 : Heap → Prop} {H : Heap} (h : c_law16_spoil C p_l K H) (hk : ∀  H2, K  H2 → K2  H2) : c_law16_spoil C p_l K2 H :=
 Spec.mono h fun _ H2 ⟨hv, h2⟩ => ⟨hv, hk H2 h2⟩
theorem c_law16_spoil.gh {C : Ctx} {p_l : Sl} {K : Heap → Prop} {H : Heap} (h : c_law16_spoil C p_l (fun  H2 => ∃ H0, Gh C H2 H0 ∧ K  H0) H) : c_law16_spoil C p_l K H :=
 Spec.gh (Spec.mono h fun _ H2 ⟨hv, H0, hg, hk⟩ => ⟨H0, hg, hv, hk⟩)
def c_zset_turn (C : Ctx) (p_n : Int) (K : Int → Heap → Prop) (H : Heap) : Prop :=
 Spec Tryz.prog C 31 [.int .i64 p_n] H (fun v H2 => ∃ (r0 : Int), v = .int .i64 r0 ∧ K r0 H2)
theorem c_zset_turn.mono {C : Ctx} {p_n : Int} {K K2 : Int → Heap → Prop} {H : Heap} (h : c_zset_turn C p_n K H) (hk : ∀ r0 H2, K r0 H2 → K2 r0 H2) : c_zset_turn C p_n K2 H :=
 Spec.mono h fun _ H2 ⟨r0, hv, h2⟩ => ⟨r0, hv, hk r0 H2 h2⟩
theorem c_zset_turn.gh {C : Ctx} {p_n : Int} {K : Int → Heap → Prop} {H : Heap} (h : c_zset_turn C p_n (fun r0 H2 => ∃ H0, Gh C H2 H0 ∧ K r0 H0) H) : c_zset_turn C p_n K H :=
 Spec.gh (Spec.mono h fun _ H2 ⟨r0, hv, H0, hg, hk⟩ => ⟨H0, hg, r0, hv, hk⟩)
def c_ref02_SameRow (C : Ctx) (p_a : Sl) (p_b : Sl) (K : Bool → Heap → Prop) (H : Heap) : Prop :=
 Spec Tryz.prog C 32 [slv p_a, slv p_b] H (fun v H2 => ∃ (r0 : Bool), v = .bool r0 ∧ K r0 H2)
theorem c_ref02_SameRow.mono {C : Ctx} {p_a : Sl} {p_b : Sl} {K K2 : Bool → Heap → Prop} {H : Heap} (h : c_ref02_SameRow C p_a p_b K H) (hk : ∀ r0 H2, K r0 H2 → K2 r0 H2) : c_ref02_SameRow C p_a p_b K2 H :=
 Spec.mono h fun _ H2 ⟨r0, hv, h2⟩ => ⟨r0, hv, hk r0 H2 h2⟩
theorem c_ref02_SameRow.gh {C : Ctx} {p_a : Sl} {p_b : Sl} {K : Bool → Heap → Prop} {H : Heap} (h : c_ref02_SameRow C p_a p_b (fun r0 H2 => ∃ H0, Gh C H2 H0 ∧ K r0 H0) H) : c_ref02_SameRow C p_a p_b K H :=
 Spec.gh (Spec.mono h fun _ H2 ⟨r0, hv, H0, hg, hk⟩ => ⟨H0, hg, r0, hv, hk⟩)
def c_value_may (C : Ctx) (p_l : Sl) (K : Bool → Heap → Prop) (H : Heap) : Prop :=
 Spec Tryz.prog C 33 [slv p_l] H (fun v H2 => ∃ (r0 : Bool), v = .bool r0 ∧ K r0 H2)
theorem c_value_may.mono {C : Ctx} {p_l : Sl} {K K2 : Bool → Heap → Prop} {H : Heap} (h : c_value_may C p_l K H) (hk : ∀ r0 H2, K r0 H2 → K2 r0 H2) : c_value_may C p_l K2 H :=
 Spec.mono h fun _ H2 ⟨r0, hv, h2⟩ => ⟨r0, hv, hk r0 H2 h2⟩
theorem c_value_may.gh {C : Ctx} {p_l : Sl} {K : Bool → Heap → Prop} {H : Heap} (h : c_value_may C p_l (fun r0 H2 => ∃ H0, Gh C H2 H0 ∧ K r0 H0) H) : c_value_may C p_l K H :=
 Spec.gh (Spec.mono h fun _ H2 ⟨r0, hv, H0, hg, hk⟩ => ⟨H0, hg, r0, hv, hk⟩)
def c_value_last (C : Ctx) (p_a : Bool) (p_b : Bool) (K : Int → Heap → Prop) (H : Heap) : Prop :=
 Spec Tryz.prog C 34 [.bool p_a, .bool p_b] H (fun v H2 => ∃ (r0 : Int), v = .int .i64 r0 ∧ K r0 H2)
theorem c_value_last.mono {C : Ctx} {p_a : Bool} {p_b : Bool} {K K2 : Int → Heap → Prop} {H : Heap} (h : c_value_last C p_a p_b K H) (hk : ∀ r0 H2, K r0 H2 → K2 r0 H2) : c_value_last C p_a p_b K2 H :=
 Spec.mono h fun _ H2 ⟨r0, hv, h2⟩ => ⟨r0, hv, hk r0 H2 h2⟩
theorem c_value_last.gh {C : Ctx} {p_a : Bool} {p_b : Bool} {K : Int → Heap → Prop} {H : Heap} (h : c_value_last C p_a p_b (fun r0 H2 => ∃ H0, Gh C H2 H0 ∧ K r0 H0) H) : c_value_last C p_a p_b K H :=
 Spec.gh (Spec.mono h fun _ H2 ⟨r0, hv, H0, hg, hk⟩ => ⟨H0, hg, r0, hv, hk⟩)
def c_value_rows (C : Ctx) (p_a : Sl) (p_b : Sl) (K : Int → Heap → Prop) (H : Heap) : Prop :=
 Spec Tryz.prog C 35 [slv p_a, slv p_b] H (fun v H2 => ∃ (r0 : Int), v = .int .i64 r0 ∧ K r0 H2)
theorem c_value_rows.mono {C : Ctx} {p_a : Sl} {p_b : Sl} {K K2 : Int → Heap → Prop} {H : Heap} (h : c_value_rows C p_a p_b K H) (hk : ∀ r0 H2, K r0 H2 → K2 r0 H2) : c_value_rows C p_a p_b K2 H :=
 Spec.mono h fun _ H2 ⟨r0, hv, h2⟩ => ⟨r0, hv, hk r0 H2 h2⟩
theorem c_value_rows.gh {C : Ctx} {p_a : Sl} {p_b : Sl} {K : Int → Heap → Prop} {H : Heap} (h : c_value_rows C p_a p_b (fun r0 H2 => ∃ H0, Gh C H2 H0 ∧ K r0 H0) H) : c_value_rows C p_a p_b K H :=
 Spec.gh (Spec.mono h fun _ H2 ⟨r0, hv, H0, hg, hk⟩ => ⟨H0, hg, r0, hv, hk⟩)
def c_slices_DeleteFunc_zset_Entry_zset_Entry (C : Ctx) (p_s : Sl) (p_del : Value) (K : Sl → Heap → Prop) (H : Heap) : Prop :=
 Spec Tryz.prog C 36 [slv p_s, p_del] H (fun v H2 => ∃ (r0 : Sl), v = slv r0 ∧ K r0 H2)
theorem c_slices_DeleteFunc_zset_Entry_zset_Entry.mono {C : Ctx} {p_s : Sl} {p_del : Value} {K K2 : Sl → Heap → Prop} {H : Heap} (h : c_slices_DeleteFunc_zset_Entry_zset_Entry C p_s p_del K H) (hk : ∀ r0 H2, K r0 H2 → K2 r0 H2) : c_slices_DeleteFunc_zset_Entry_zset_Entry C p_s p_del K2 H :=
 Spec.mono h fun _ H2 ⟨r0, hv, h2⟩ => ⟨r0, hv, hk r0 H2 h2⟩
theorem c_slices_DeleteFunc_zset_Entry_zset_Entry.gh {C : Ctx} {p_s : Sl} {p_del : Value} {K : Sl → Heap → Prop} {H : Heap} (h : c_slices_DeleteFunc_zset_Entry_zset_Entry C p_s p_del (fun r0 H2 => ∃ H0, Gh C H2 H0 ∧ K r0 H0) H) : c_slices_DeleteFunc_zset_Entry_zset_Entry C p_s p_del K H :=
 Spec.gh (Spec.mono h fun _ H2 ⟨r0, hv, H0, hg, hk⟩ => ⟨H0, hg, r0, hv, hk⟩)
def c_zset_Distinct_1 (C : Ctx) (p_x : T_zset_Entry) (K : Bool → Heap → Prop) (H : Heap) : Prop :=
 Spec Tryz.prog C 37 [.agg (T_zset_Entry.c p_x).toArray] H (fun v H2 => ∃ (r0 : Bool), v = .bool r0 ∧ K r0 H2)
theorem c_zset_Distinct_1.mono {C : Ctx} {p_x : T_zset_Entry} {K K2 : Bool → Heap → Prop} {H : Heap} (h : c_zset_Distinct_1 C p_x K H) (hk : ∀ r0 H2, K r0 H2 → K2 r0 H2) : c_zset_Distinct_1 C p_x K2 H :=
 Spec.mono h fun _ H2 ⟨r0, hv, h2⟩ => ⟨r0, hv, hk r0 H2 h2⟩
theorem c_zset_Distinct_1.gh {C : Ctx} {p_x : T_zset_Entry} {K : Bool → Heap → Prop} {H : Heap} (h : c_zset_Distinct_1 C p_x (fun r0 H2 => ∃ H0, Gh C H2 H0 ∧ K r0 H0) H) : c_zset_Distinct_1 C p_x K H :=
 Spec.gh (Spec.mono h fun _ H2 ⟨r0, hv, H0, hg, hk⟩ => ⟨H0, hg, r0, hv, hk⟩)
def c_value_depth (C : Ctx) (p_v : T_api_Value) (p_most : Int) (K : Int → Heap → Prop) (H : Heap) : Prop :=
 Spec Tryz.prog C 38 [.agg (T_api_Value.c p_v).toArray, .int .i64 p_most] H (fun v H2 => ∃ (r0 : Int), v = .int .i64 r0 ∧ K r0 H2)
theorem c_value_depth.mono {C : Ctx} {p_v : T_api_Value} {p_most : Int} {K K2 : Int → Heap → Prop} {H : Heap} (h : c_value_depth C p_v p_most K H) (hk : ∀ r0 H2, K r0 H2 → K2 r0 H2) : c_value_depth C p_v p_most K2 H :=
 Spec.mono h fun _ H2 ⟨r0, hv, h2⟩ => ⟨r0, hv, hk r0 H2 h2⟩
theorem c_value_depth.gh {C : Ctx} {p_v : T_api_Value} {p_most : Int} {K : Int → Heap → Prop} {H : Heap} (h : c_value_depth C p_v p_most (fun r0 H2 => ∃ H0, Gh C H2 H0 ∧ K r0 H0) H) : c_value_depth C p_v p_most K H :=
 Spec.gh (Spec.mono h fun _ H2 ⟨r0, hv, H0, hg, hk⟩ => ⟨H0, hg, r0, hv, hk⟩)
def c_value_item_look (C : Ctx) (p_v : T_api_Value) (K : Bool → Bool → Heap → Prop) (H : Heap) : Prop :=
 Spec Tryz.prog C 39 [.agg (T_api_Value.c p_v).toArray] H (fun v H2 => ∃ (r0 : Bool) (r1 : Bool), v = .tuple #[.bool r0, .bool r1] ∧ K r0 r1 H2)
theorem c_value_item_look.mono {C : Ctx} {p_v : T_api_Value} {K K2 : Bool → Bool → Heap → Prop} {H : Heap} (h : c_value_item_look C p_v K H) (hk : ∀ r0 r1 H2, K r0 r1 H2 → K2 r0 r1 H2) : c_value_item_look C p_v K2 H :=
 Spec.mono h fun _ H2 ⟨r0, r1, hv, h2⟩ => ⟨r0, r1, hv, hk r0 r1 H2 h2⟩
theorem c_value_item_look.gh {C : Ctx} {p_v : T_api_Value} {K : Bool → Bool → Heap → Prop} {H : Heap} (h : c_value_item_look C p_v (fun r0 r1 H2 => ∃ H0, Gh C H2 H0 ∧ K r0 r1 H0) H) : c_value_item_look C p_v K H :=
 Spec.gh (Spec.mono h fun _ H2 ⟨r0, r1, hv, H0, hg, hk⟩ => ⟨H0, hg, r0, r1, hv, hk⟩)
def c_zset_each (C : Ctx) (p_parts : Sl) (K : Value → Heap → Prop) (H : Heap) : Prop :=
 Spec Tryz.prog C 44 [slv p_parts] H (fun v H2 => ∃ (r0 : Value), v = r0 ∧ K r0 H2)
theorem c_zset_each.mono {C : Ctx} {p_parts : Sl} {K K2 : Value → Heap → Prop} {H : Heap} (h : c_zset_each C p_parts K H) (hk : ∀ r0 H2, K r0 H2 → K2 r0 H2) : c_zset_each C p_parts K2 H :=
 Spec.mono h fun _ H2 ⟨r0, hv, h2⟩ => ⟨r0, hv, hk r0 H2 h2⟩
theorem c_zset_each.gh {C : Ctx} {p_parts : Sl} {K : Value → Heap → Prop} {H : Heap} (h : c_zset_each C p_parts (fun r0 H2 => ∃ H0, Gh C H2 H0 ∧ K r0 H0) H) : c_zset_each C p_parts K H :=
 Spec.gh (Spec.mono h fun _ H2 ⟨r0, hv, H0, hg, hk⟩ => ⟨H0, hg, r0, hv, hk⟩)
def c_slices_ContainsFunc_api_Value_api_Value (C : Ctx) (p_s : Sl) (p_f : Value) (K : Bool → Heap → Prop) (H : Heap) : Prop :=
 Spec Tryz.prog C 45 [slv p_s, p_f] H (fun v H2 => ∃ (r0 : Bool), v = .bool r0 ∧ K r0 H2)
theorem c_slices_ContainsFunc_api_Value_api_Value.mono {C : Ctx} {p_s : Sl} {p_f : Value} {K K2 : Bool → Heap → Prop} {H : Heap} (h : c_slices_ContainsFunc_api_Value_api_Value C p_s p_f K H) (hk : ∀ r0 H2, K r0 H2 → K2 r0 H2) : c_slices_ContainsFunc_api_Value_api_Value C p_s p_f K2 H :=
 Spec.mono h fun _ H2 ⟨r0, hv, h2⟩ => ⟨r0, hv, hk r0 H2 h2⟩
theorem c_slices_ContainsFunc_api_Value_api_Value.gh {C : Ctx} {p_s : Sl} {p_f : Value} {K : Bool → Heap → Prop} {H : Heap} (h : c_slices_ContainsFunc_api_Value_api_Value C p_s p_f (fun r0 H2 => ∃ H0, Gh C H2 H0 ∧ K r0 H0) H) : c_slices_ContainsFunc_api_Value_api_Value C p_s p_f K H :=
 Spec.gh (Spec.mono h fun _ H2 ⟨r0, hv, H0, hg, hk⟩ => ⟨H0, hg, r0, hv, hk⟩)
def c_zset_sums_1 (C : Ctx) (p_v : T_api_Value) (K : Bool → Heap → Prop) (H : Heap) : Prop :=
 Spec Tryz.prog C 46 [.agg (T_api_Value.c p_v).toArray] H (fun v H2 => ∃ (r0 : Bool), v = .bool r0 ∧ K r0 H2)
theorem c_zset_sums_1.mono {C : Ctx} {p_v : T_api_Value} {K K2 : Bool → Heap → Prop} {H : Heap} (h : c_zset_sums_1 C p_v K H) (hk : ∀ r0 H2, K r0 H2 → K2 r0 H2) : c_zset_sums_1 C p_v K2 H :=
 Spec.mono h fun _ H2 ⟨r0, hv, h2⟩ => ⟨r0, hv, hk r0 H2 h2⟩
theorem c_zset_sums_1.gh {C : Ctx} {p_v : T_api_Value} {K : Bool → Heap → Prop} {H : Heap} (h : c_zset_sums_1 C p_v (fun r0 H2 => ∃ H0, Gh C H2 H0 ∧ K r0 H0) H) : c_zset_sums_1 C p_v K H :=
 Spec.gh (Spec.mono h fun _ H2 ⟨r0, hv, H0, hg, hk⟩ => ⟨H0, hg, r0, hv, hk⟩)
def c_zset_out (C : Ctx) (p_n : Int) (K : Bool → Heap → Prop) (H : Heap) : Prop :=
 Spec Tryz.prog C 47 [.int .i64 p_n] H (fun v H2 => ∃ (r0 : Bool), v = .bool r0 ∧ K r0 H2)
theorem c_zset_out.mono {C : Ctx} {p_n : Int} {K K2 : Bool → Heap → Prop} {H : Heap} (h : c_zset_out C p_n K H) (hk : ∀ r0 H2, K r0 H2 → K2 r0 H2) : c_zset_out C p_n K2 H :=
 Spec.mono h fun _ H2 ⟨r0, hv, h2⟩ => ⟨r0, hv, hk r0 H2 h2⟩
theorem c_zset_out.gh {C : Ctx} {p_n : Int} {K : Bool → Heap → Prop} {H : Heap} (h : c_zset_out C p_n (fun r0 H2 => ∃ H0, Gh C H2 H0 ∧ K r0 H0) H) : c_zset_out C p_n K H :=
 Spec.gh (Spec.mono h fun _ H2 ⟨r0, hv, H0, hg, hk⟩ => ⟨H0, hg, r0, hv, hk⟩)
def c_slices_SortStableFunc_zset_Entry_zset_Entry (C : Ctx) (p_x : Sl) (p_cmp : Value) (K : Heap → Prop) (H : Heap) : Prop :=
 Spec Tryz.prog C 48 [slv p_x, p_cmp] H (fun v H2 => v = .tuple #[] ∧ K H2)
theorem c_slices_SortStableFunc_zset_Entry_zset_Entry.mono {C : Ctx} {p_x : Sl} {p_cmp : Value} {K K2 : Heap → Prop} {H : Heap} (h : c_slices_SortStableFunc_zset_Entry_zset_Entry C p_x p_cmp K H) (hk : ∀  H2, K  H2 → K2  H2) : c_slices_SortStableFunc_zset_Entry_zset_Entry C p_x p_cmp K2 H :=
 Spec.mono h fun _ H2 ⟨hv, h2⟩ => ⟨hv, hk H2 h2⟩
theorem c_slices_SortStableFunc_zset_Entry_zset_Entry.gh {C : Ctx} {p_x : Sl} {p_cmp : Value} {K : Heap → Prop} {H : Heap} (h : c_slices_SortStableFunc_zset_Entry_zset_Entry C p_x p_cmp (fun  H2 => ∃ H0, Gh C H2 H0 ∧ K  H0) H) : c_slices_SortStableFunc_zset_Entry_zset_Entry C p_x p_cmp K H :=
 Spec.gh (Spec.mono h fun _ H2 ⟨hv, H0, hg, hk⟩ => ⟨H0, hg, hv, hk⟩)
def c_zset_sums_2 (C : Ctx) (p_a : T_zset_Entry) (p_b : T_zset_Entry) (K : Int → Heap → Prop) (H : Heap) : Prop :=
 Spec Tryz.prog C 49 [.agg (T_zset_Entry.c p_a).toArray, .agg (T_zset_Entry.c p_b).toArray] H (fun v H2 => ∃ (r0 : Int), v = .int .i64 r0 ∧ K r0 H2)
theorem c_zset_sums_2.mono {C : Ctx} {p_a : T_zset_Entry} {p_b : T_zset_Entry} {K K2 : Int → Heap → Prop} {H : Heap} (h : c_zset_sums_2 C p_a p_b K H) (hk : ∀ r0 H2, K r0 H2 → K2 r0 H2) : c_zset_sums_2 C p_a p_b K2 H :=
 Spec.mono h fun _ H2 ⟨r0, hv, h2⟩ => ⟨r0, hv, hk r0 H2 h2⟩
theorem c_zset_sums_2.gh {C : Ctx} {p_a : T_zset_Entry} {p_b : T_zset_Entry} {K : Int → Heap → Prop} {H : Heap} (h : c_zset_sums_2 C p_a p_b (fun r0 H2 => ∃ H0, Gh C H2 H0 ∧ K r0 H0) H) : c_zset_sums_2 C p_a p_b K H :=
 Spec.gh (Spec.mono h fun _ H2 ⟨r0, hv, H0, hg, hk⟩ => ⟨H0, hg, r0, hv, hk⟩)
def c_zset_own (C : Ctx) (p_l : Sl) (K : Sl → Heap → Prop) (H : Heap) : Prop :=
 Spec Tryz.prog C 50 [slv p_l] H (fun v H2 => ∃ (r0 : Sl), v = slv r0 ∧ K r0 H2)
theorem c_zset_own.mono {C : Ctx} {p_l : Sl} {K K2 : Sl → Heap → Prop} {H : Heap} (h : c_zset_own C p_l K H) (hk : ∀ r0 H2, K r0 H2 → K2 r0 H2) : c_zset_own C p_l K2 H :=
 Spec.mono h fun _ H2 ⟨r0, hv, h2⟩ => ⟨r0, hv, hk r0 H2 h2⟩
theorem c_zset_own.gh {C : Ctx} {p_l : Sl} {K : Sl → Heap → Prop} {H : Heap} (h : c_zset_own C p_l (fun r0 H2 => ∃ H0, Gh C H2 H0 ∧ K r0 H0) H) : c_zset_own C p_l K H :=
 Spec.gh (Spec.mono h fun _ H2 ⟨r0, hv, H0, hg, hk⟩ => ⟨H0, hg, r0, hv, hk⟩)
def c_ref16_Check (C : Ctx) (p_l : Sl) (K : Int → Heap → Prop) (H : Heap) : Prop :=
 Spec Tryz.prog C 51 [slv p_l] H (fun v H2 => ∃ (r0 : Int), v = .int .i64 r0 ∧ K r0 H2)
theorem c_ref16_Check.mono {C : Ctx} {p_l : Sl} {K K2 : Int → Heap → Prop} {H : Heap} (h : c_ref16_Check C p_l K H) (hk : ∀ r0 H2, K r0 H2 → K2 r0 H2) : c_ref16_Check C p_l K2 H :=
 Spec.mono h fun _ H2 ⟨r0, hv, h2⟩ => ⟨r0, hv, hk r0 H2 h2⟩
theorem c_ref16_Check.gh {C : Ctx} {p_l : Sl} {K : Int → Heap → Prop} {H : Heap} (h : c_ref16_Check C p_l (fun r0 H2 => ∃ H0, Gh C H2 H0 ∧ K r0 H0) H) : c_ref16_Check C p_l K H :=
 Spec.gh (Spec.mono h fun _ H2 ⟨r0, hv, H0, hg, hk⟩ => ⟨H0, hg, r0, hv, hk⟩)
def c_ref02_CmpRows (C : Ctx) (p_a : Sl) (p_b : Sl) (K : Int → Heap → Prop) (H : Heap) : Prop :=
 Spec Tryz.prog C 52 [slv p_a, slv p_b] H (fun v H2 => ∃ (r0 : Int), v = .int .i64 r0 ∧ K r0 H2)
theorem c_ref02_CmpRows.mono {C : Ctx} {p_a : Sl} {p_b : Sl} {K K2 : Int → Heap → Prop} {H : Heap} (h : c_ref02_CmpRows C p_a p_b K H) (hk : ∀ r0 H2, K r0 H2 → K2 r0 H2) : c_ref02_CmpRows C p_a p_b K2 H :=
 Spec.mono h fun _ H2 ⟨r0, hv, h2⟩ => ⟨r0, hv, hk r0 H2 h2⟩
theorem c_ref02_CmpRows.gh {C : Ctx} {p_a : Sl} {p_b : Sl} {K : Int → Heap → Prop} {H : Heap} (h : c_ref02_CmpRows C p_a p_b (fun r0 H2 => ∃ H0, Gh C H2 H0 ∧ K r0 H0) H) : c_ref02_CmpRows C p_a p_b K H :=
 Spec.gh (Spec.mono h fun _ H2 ⟨r0, hv, H0, hg, hk⟩ => ⟨H0, hg, r0, hv, hk⟩)
def c_ref02_Same (C : Ctx) (p_a : T_api_Value) (p_b : T_api_Value) (K : Bool → Heap → Prop) (H : Heap) : Prop :=
 Spec Tryz.prog C 53 [.agg (T_api_Value.c p_a).toArray, .agg (T_api_Value.c p_b).toArray] H (fun v H2 => ∃ (r0 : Bool), v = .bool r0 ∧ K r0 H2)
theorem c_ref02_Same.mono {C : Ctx} {p_a : T_api_Value} {p_b : T_api_Value} {K K2 : Bool → Heap → Prop} {H : Heap} (h : c_ref02_Same C p_a p_b K H) (hk : ∀ r0 H2, K r0 H2 → K2 r0 H2) : c_ref02_Same C p_a p_b K2 H :=
 Spec.mono h fun _ H2 ⟨r0, hv, h2⟩ => ⟨r0, hv, hk r0 H2 h2⟩
theorem c_ref02_Same.gh {C : Ctx} {p_a : T_api_Value} {p_b : T_api_Value} {K : Bool → Heap → Prop} {H : Heap} (h : c_ref02_Same C p_a p_b (fun r0 H2 => ∃ H0, Gh C H2 H0 ∧ K r0 H0) H) : c_ref02_Same C p_a p_b K H :=
 Spec.gh (Spec.mono h fun _ H2 ⟨r0, hv, H0, hg, hk⟩ => ⟨H0, hg, r0, hv, hk⟩)
def c_value_may_1 (C : Ctx) (p_v : T_api_Value) (K : Bool → Heap → Prop) (H : Heap) : Prop :=
 Spec Tryz.prog C 54 [.agg (T_api_Value.c p_v).toArray] H (fun v H2 => ∃ (r0 : Bool), v = .bool r0 ∧ K r0 H2)
theorem c_value_may_1.mono {C : Ctx} {p_v : T_api_Value} {K K2 : Bool → Heap → Prop} {H : Heap} (h : c_value_may_1 C p_v K H) (hk : ∀ r0 H2, K r0 H2 → K2 r0 H2) : c_value_may_1 C p_v K2 H :=
 Spec.mono h fun _ H2 ⟨r0, hv, h2⟩ => ⟨r0, hv, hk r0 H2 h2⟩
theorem c_value_may_1.gh {C : Ctx} {p_v : T_api_Value} {K : Bool → Heap → Prop} {H : Heap} (h : c_value_may_1 C p_v (fun r0 H2 => ∃ H0, Gh C H2 H0 ∧ K r0 H0) H) : c_value_may_1 C p_v K H :=
 Spec.gh (Spec.mono h fun _ H2 ⟨r0, hv, H0, hg, hk⟩ => ⟨H0, hg, r0, hv, hk⟩)
def c_slices_CompareFunc_api_Value_api_Value_api_Value_api_Value (C : Ctx) (p_s1 : Sl) (p_s2 : Sl) (p_cmp : Value) (K : Int → Heap → Prop) (H : Heap) : Prop :=
 Spec Tryz.prog C 55 [slv p_s1, slv p_s2, p_cmp] H (fun v H2 => ∃ (r0 : Int), v = .int .i64 r0 ∧ K r0 H2)
theorem c_slices_CompareFunc_api_Value_api_Value_api_Value_api_Value.mono {C : Ctx} {p_s1 : Sl} {p_s2 : Sl} {p_cmp : Value} {K K2 : Int → Heap → Prop} {H : Heap} (h : c_slices_CompareFunc_api_Value_api_Value_api_Value_api_Value C p_s1 p_s2 p_cmp K H) (hk : ∀ r0 H2, K r0 H2 → K2 r0 H2) : c_slices_CompareFunc_api_Value_api_Value_api_Value_api_Value C p_s1 p_s2 p_cmp K2 H :=
 Spec.mono h fun _ H2 ⟨r0, hv, h2⟩ => ⟨r0, hv, hk r0 H2 h2⟩
theorem c_slices_CompareFunc_api_Value_api_Value_api_Value_api_Value.gh {C : Ctx} {p_s1 : Sl} {p_s2 : Sl} {p_cmp : Value} {K : Int → Heap → Prop} {H : Heap} (h : c_slices_CompareFunc_api_Value_api_Value_api_Value_api_Value C p_s1 p_s2 p_cmp (fun r0 H2 => ∃ H0, Gh C H2 H0 ∧ K r0 H0) H) : c_slices_CompareFunc_api_Value_api_Value_api_Value_api_Value C p_s1 p_s2 p_cmp K H :=
 Spec.gh (Spec.mono h fun _ H2 ⟨r0, hv, H0, hg, hk⟩ => ⟨H0, hg, r0, hv, hk⟩)
def c_value_rows_1 (C : Ctx) (p_x : T_api_Value) (p_y : T_api_Value) (K : Int → Heap → Prop) (H : Heap) : Prop :=
 Spec Tryz.prog C 56 [.agg (T_api_Value.c p_x).toArray, .agg (T_api_Value.c p_y).toArray] H (fun v H2 => ∃ (r0 : Int), v = .int .i64 r0 ∧ K r0 H2)
theorem c_value_rows_1.mono {C : Ctx} {p_x : T_api_Value} {p_y : T_api_Value} {K K2 : Int → Heap → Prop} {H : Heap} (h : c_value_rows_1 C p_x p_y K H) (hk : ∀ r0 H2, K r0 H2 → K2 r0 H2) : c_value_rows_1 C p_x p_y K2 H :=
 Spec.mono h fun _ H2 ⟨r0, hv, h2⟩ => ⟨r0, hv, hk r0 H2 h2⟩
theorem c_value_rows_1.gh {C : Ctx} {p_x : T_api_Value} {p_y : T_api_Value} {K : Int → Heap → Prop} {H : Heap} (h : c_value_rows_1 C p_x p_y (fun r0 H2 => ∃ H0, Gh C H2 H0 ∧ K r0 H0) H) : c_value_rows_1 C p_x p_y K H :=
 Spec.gh (Spec.mono h fun _ H2 ⟨r0, hv, H0, hg, hk⟩ => ⟨H0, hg, r0, hv, hk⟩)
def c_value_item_cmp (C : Ctx) (p_v : T_api_Value) (p_w : T_api_Value) (K : Int → Heap → Prop) (H : Heap) : Prop :=
 Spec Tryz.prog C 57 [.agg (T_api_Value.c p_v).toArray, .agg (T_api_Value.c p_w).toArray] H (fun v H2 => ∃ (r0 : Int), v = .int .i64 r0 ∧ K r0 H2)
theorem c_value_item_cmp.mono {C : Ctx} {p_v : T_api_Value} {p_w : T_api_Value} {K K2 : Int → Heap → Prop} {H : Heap} (h : c_value_item_cmp C p_v p_w K H) (hk : ∀ r0 H2, K r0 H2 → K2 r0 H2) : c_value_item_cmp C p_v p_w K2 H :=
 Spec.mono h fun _ H2 ⟨r0, hv, h2⟩ => ⟨r0, hv, hk r0 H2 h2⟩
theorem c_value_item_cmp.gh {C : Ctx} {p_v : T_api_Value} {p_w : T_api_Value} {K : Int → Heap → Prop} {H : Heap} (h : c_value_item_cmp C p_v p_w (fun r0 H2 => ∃ H0, Gh C H2 H0 ∧ K r0 H0) H) : c_value_item_cmp C p_v p_w K H :=
 Spec.gh (Spec.mono h fun _ H2 ⟨r0, hv, H0, hg, hk⟩ => ⟨H0, hg, r0, hv, hk⟩)
def c_slices_IndexFunc_zset_Entry_zset_Entry (C : Ctx) (p_s : Sl) (p_f : Value) (K : Int → Heap → Prop) (H : Heap) : Prop :=
 Spec Tryz.prog C 58 [slv p_s, p_f] H (fun v H2 => ∃ (r0 : Int), v = .int .i64 r0 ∧ K r0 H2)
theorem c_slices_IndexFunc_zset_Entry_zset_Entry.mono {C : Ctx} {p_s : Sl} {p_f : Value} {K K2 : Int → Heap → Prop} {H : Heap} (h : c_slices_IndexFunc_zset_Entry_zset_Entry C p_s p_f K H) (hk : ∀ r0 H2, K r0 H2 → K2 r0 H2) : c_slices_IndexFunc_zset_Entry_zset_Entry C p_s p_f K2 H :=
 Spec.mono h fun _ H2 ⟨r0, hv, h2⟩ => ⟨r0, hv, hk r0 H2 h2⟩
theorem c_slices_IndexFunc_zset_Entry_zset_Entry.gh {C : Ctx} {p_s : Sl} {p_f : Value} {K : Int → Heap → Prop} {H : Heap} (h : c_slices_IndexFunc_zset_Entry_zset_Entry C p_s p_f (fun r0 H2 => ∃ H0, Gh C H2 H0 ∧ K r0 H0) H) : c_slices_IndexFunc_zset_Entry_zset_Entry C p_s p_f K H :=
 Spec.gh (Spec.mono h fun _ H2 ⟨r0, hv, H0, hg, hk⟩ => ⟨H0, hg, r0, hv, hk⟩)
def c_value_number (C : Ctx) (p_s : Str) (K : Int → Bool → Heap → Prop) (H : Heap) : Prop :=
 Spec Tryz.prog C 59 [sv p_s] H (fun v H2 => ∃ (r0 : Int) (r1 : Bool), v = .tuple #[.int .i64 r0, .bool r1] ∧ K r0 r1 H2)
theorem c_value_number.mono {C : Ctx} {p_s : Str} {K K2 : Int → Bool → Heap → Prop} {H : Heap} (h : c_value_number C p_s K H) (hk : ∀ r0 r1 H2, K r0 r1 H2 → K2 r0 r1 H2) : c_value_number C p_s K2 H :=
 Spec.mono h fun _ H2 ⟨r0, r1, hv, h2⟩ => ⟨r0, r1, hv, hk r0 r1 H2 h2⟩
theorem c_value_number.gh {C : Ctx} {p_s : Str} {K : Int → Bool → Heap → Prop} {H : Heap} (h : c_value_number C p_s (fun r0 r1 H2 => ∃ H0, Gh C H2 H0 ∧ K r0 r1 H0) H) : c_value_number C p_s K H :=
 Spec.gh (Spec.mono h fun _ H2 ⟨r0, r1, hv, H0, hg, hk⟩ => ⟨H0, hg, r0, r1, hv, hk⟩)
def c_strings_Cut (C : Ctx) (p_s : Str) (p_sep : Str) (K : Str → Str → Bool → Heap → Prop) (H : Heap) : Prop :=
 Spec Tryz.prog C 60 [sv p_s, sv p_sep] H (fun v H2 => ∃ (r0 : Str) (r1 : Str) (r2 : Bool), v = .tuple #[sv r0, sv r1, .bool r2] ∧ K r0 r1 r2 H2)
theorem c_strings_Cut.mono {C : Ctx} {p_s : Str} {p_sep : Str} {K K2 : Str → Str → Bool → Heap → Prop} {H : Heap} (h : c_strings_Cut C p_s p_sep K H) (hk : ∀ r0 r1 r2 H2, K r0 r1 r2 H2 → K2 r0 r1 r2 H2) : c_strings_Cut C p_s p_sep K2 H :=
 Spec.mono h fun _ H2 ⟨r0, r1, r2, hv, h2⟩ => ⟨r0, r1, r2, hv, hk r0 r1 r2 H2 h2⟩
theorem c_strings_Cut.gh {C : Ctx} {p_s : Str} {p_sep : Str} {K : Str → Str → Bool → Heap → Prop} {H : Heap} (h : c_strings_Cut C p_s p_sep (fun r0 r1 r2 H2 => ∃ H0, Gh C H2 H0 ∧ K r0 r1 r2 H0) H) : c_strings_Cut C p_s p_sep K H :=
 Spec.gh (Spec.mono h fun _ H2 ⟨r0, r1, r2, hv, H0, hg, hk⟩ => ⟨H0, hg, r0, r1, r2, hv, hk⟩)
def c_value_name (C : Ctx) (p_s : Str) (K : Bool → Heap → Prop) (H : Heap) : Prop :=
 Spec Tryz.prog C 61 [sv p_s] H (fun v H2 => ∃ (r0 : Bool), v = .bool r0 ∧ K r0 H2)
theorem c_value_name.mono {C : Ctx} {p_s : Str} {K K2 : Bool → Heap → Prop} {H : Heap} (h : c_value_name C p_s K H) (hk : ∀ r0 H2, K r0 H2 → K2 r0 H2) : c_value_name C p_s K2 H :=
 Spec.mono h fun _ H2 ⟨r0, hv, h2⟩ => ⟨r0, hv, hk r0 H2 h2⟩
theorem c_value_name.gh {C : Ctx} {p_s : Str} {K : Bool → Heap → Prop} {H : Heap} (h : c_value_name C p_s (fun r0 H2 => ∃ H0, Gh C H2 H0 ∧ K r0 H0) H) : c_value_name C p_s K H :=
 Spec.gh (Spec.mono h fun _ H2 ⟨r0, hv, H0, hg, hk⟩ => ⟨H0, hg, r0, hv, hk⟩)
def c_slices_Clone_api_Value_api_Value (C : Ctx) (p_s : Sl) (K : Sl → Heap → Prop) (H : Heap) : Prop :=
 Spec Tryz.prog C 62 [slv p_s] H (fun v H2 => ∃ (r0 : Sl), v = slv r0 ∧ K r0 H2)
theorem c_slices_Clone_api_Value_api_Value.mono {C : Ctx} {p_s : Sl} {K K2 : Sl → Heap → Prop} {H : Heap} (h : c_slices_Clone_api_Value_api_Value C p_s K H) (hk : ∀ r0 H2, K r0 H2 → K2 r0 H2) : c_slices_Clone_api_Value_api_Value C p_s K2 H :=
 Spec.mono h fun _ H2 ⟨r0, hv, h2⟩ => ⟨r0, hv, hk r0 H2 h2⟩
theorem c_slices_Clone_api_Value_api_Value.gh {C : Ctx} {p_s : Sl} {K : Sl → Heap → Prop} {H : Heap} (h : c_slices_Clone_api_Value_api_Value C p_s (fun r0 H2 => ∃ H0, Gh C H2 H0 ∧ K r0 H0) H) : c_slices_Clone_api_Value_api_Value C p_s K H :=
 Spec.gh (Spec.mono h fun _ H2 ⟨r0, hv, H0, hg, hk⟩ => ⟨H0, hg, r0, hv, hk⟩)
def c_zset_each_1 (C : Ctx) (p_yield : Value) (v0 : Nat × Nat) (K : Heap → Prop) (H : Heap) : Prop :=
 Spec Tryz.prog C 64 [p_yield, pv (some v0)] H (fun v H2 => v = .tuple #[] ∧ K H2)
theorem c_zset_each_1.mono {C : Ctx} {p_yield : Value} {v0 : Nat × Nat} {K K2 : Heap → Prop} {H : Heap} (h : c_zset_each_1 C p_yield v0 K H) (hk : ∀  H2, K  H2 → K2  H2) : c_zset_each_1 C p_yield v0 K2 H :=
 Spec.mono h fun _ H2 ⟨hv, h2⟩ => ⟨hv, hk H2 h2⟩
theorem c_zset_each_1.gh {C : Ctx} {p_yield : Value} {v0 : Nat × Nat} {K : Heap → Prop} {H : Heap} (h : c_zset_each_1 C p_yield v0 (fun  H2 => ∃ H0, Gh C H2 H0 ∧ K  H0) H) : c_zset_each_1 C p_yield v0 K H :=
 Spec.gh (Spec.mono h fun _ H2 ⟨hv, H0, hg, hk⟩ => ⟨H0, hg, hv, hk⟩)
def c_slices_IndexFunc_api_Value_api_Value (C : Ctx) (p_s : Sl) (p_f : Value) (K : Int → Heap → Prop) (H : Heap) : Prop :=
 Spec Tryz.prog C 65 [slv p_s, p_f] H (fun v H2 => ∃ (r0 : Int), v = .int .i64 r0 ∧ K r0 H2)
theorem c_slices_IndexFunc_api_Value_api_Value.mono {C : Ctx} {p_s : Sl} {p_f : Value} {K K2 : Int → Heap → Prop} {H : Heap} (h : c_slices_IndexFunc_api_Value_api_Value C p_s p_f K H) (hk : ∀ r0 H2, K r0 H2 → K2 r0 H2) : c_slices_IndexFunc_api_Value_api_Value C p_s p_f K2 H :=
 Spec.mono h fun _ H2 ⟨r0, hv, h2⟩ => ⟨r0, hv, hk r0 H2 h2⟩
theorem c_slices_IndexFunc_api_Value_api_Value.gh {C : Ctx} {p_s : Sl} {p_f : Value} {K : Int → Heap → Prop} {H : Heap} (h : c_slices_IndexFunc_api_Value_api_Value C p_s p_f (fun r0 H2 => ∃ H0, Gh C H2 H0 ∧ K r0 H0) H) : c_slices_IndexFunc_api_Value_api_Value C p_s p_f K H :=
 Spec.gh (Spec.mono h fun _ H2 ⟨r0, hv, H0, hg, hk⟩ => ⟨H0, hg, r0, hv, hk⟩)
def c_slices_stableCmpFunc_zset_Entry (C : Ctx) (p_data : Sl) (p_n : Int) (p_cmp : Value) (K : Heap → Prop) (H : Heap) : Prop :=
 Spec Tryz.prog C 66 [slv p_data, .int .i64 p_n, p_cmp] H (fun v H2 => v = .tuple #[] ∧ K H2)
theorem c_slices_stableCmpFunc_zset_Entry.mono {C : Ctx} {p_data : Sl} {p_n : Int} {p_cmp : Value} {K K2 : Heap → Prop} {H : Heap} (h : c_slices_stableCmpFunc_zset_Entry C p_data p_n p_cmp K H) (hk : ∀  H2, K  H2 → K2  H2) : c_slices_stableCmpFunc_zset_Entry C p_data p_n p_cmp K2 H :=
 Spec.mono h fun _ H2 ⟨hv, h2⟩ => ⟨hv, hk H2 h2⟩
theorem c_slices_stableCmpFunc_zset_Entry.gh {C : Ctx} {p_data : Sl} {p_n : Int} {p_cmp : Value} {K : Heap → Prop} {H : Heap} (h : c_slices_stableCmpFunc_zset_Entry C p_data p_n p_cmp (fun  H2 => ∃ H0, Gh C H2 H0 ∧ K  H0) H) : c_slices_stableCmpFunc_zset_Entry C p_data p_n p_cmp K H :=
 Spec.gh (Spec.mono h fun _ H2 ⟨hv, H0, hg, hk⟩ => ⟨H0, hg, hv, hk⟩)
def c_ref02_Row (C : Ctx) (p_l : Sl) (K : Bool → Heap → Prop) (H : Heap) : Prop :=
 Spec Tryz.prog C 67 [slv p_l] H (fun v H2 => ∃ (r0 : Bool), v = .bool r0 ∧ K r0 H2)
theorem c_ref02_Row.mono {C : Ctx} {p_l : Sl} {K K2 : Bool → Heap → Prop} {H : Heap} (h : c_ref02_Row C p_l K H) (hk : ∀ r0 H2, K r0 H2 → K2 r0 H2) : c_ref02_Row C p_l K2 H :=
 Spec.mono h fun _ H2 ⟨r0, hv, h2⟩ => ⟨r0, hv, hk r0 H2 h2⟩
theorem c_ref02_Row.gh {C : Ctx} {p_l : Sl} {K : Bool → Heap → Prop} {H : Heap} (h : c_ref02_Row C p_l (fun r0 H2 => ∃ H0, Gh C H2 H0 ∧ K r0 H0) H) : c_ref02_Row C p_l K H :=
 Spec.gh (Spec.mono h fun _ H2 ⟨r0, hv, H0, hg, hk⟩ => ⟨H0, hg, r0, hv, hk⟩)
def c_ref02_last (C : Ctx) (p_a : Bool) (p_b : Bool) (K : Int → Heap → Prop) (H : Heap) : Prop :=
 Spec Tryz.prog C 68 [.bool p_a, .bool p_b] H (fun v H2 => ∃ (r0 : Int), v = .int .i64 r0 ∧ K r0 H2)
theorem c_ref02_last.mono {C : Ctx} {p_a : Bool} {p_b : Bool} {K K2 : Int → Heap → Prop} {H : Heap} (h : c_ref02_last C p_a p_b K H) (hk : ∀ r0 H2, K r0 H2 → K2 r0 H2) : c_ref02_last C p_a p_b K2 H :=
 Spec.mono h fun _ H2 ⟨r0, hv, h2⟩ => ⟨r0, hv, hk r0 H2 h2⟩
theorem c_ref02_last.gh {C : Ctx} {p_a : Bool} {p_b : Bool} {K : Int → Heap → Prop} {H : Heap} (h : c_ref02_last C p_a p_b (fun r0 H2 => ∃ H0, Gh C H2 H0 ∧ K r0 H0) H) : c_ref02_last C p_a p_b K H :=
 Spec.gh (Spec.mono h fun _ H2 ⟨r0, hv, H0, hg, hk⟩ => ⟨H0, hg, r0, hv, hk⟩)
def c_ref02_rows (C : Ctx) (p_a : Sl) (p_b : Sl) (K : Int → Heap → Prop) (H : Heap) : Prop :=
 Spec Tryz.prog C 69 [slv p_a, slv p_b] H (fun v H2 => ∃ (r0 : Int), v = .int .i64 r0 ∧ K r0 H2)
theorem c_ref02_rows.mono {C : Ctx} {p_a : Sl} {p_b : Sl} {K K2 : Int → Heap → Prop} {H : Heap} (h : c_ref02_rows C p_a p_b K H) (hk : ∀ r0 H2, K r0 H2 → K2 r0 H2) : c_ref02_rows C p_a p_b K2 H :=
 Spec.mono h fun _ H2 ⟨r0, hv, h2⟩ => ⟨r0, hv, hk r0 H2 h2⟩
theorem c_ref02_rows.gh {C : Ctx} {p_a : Sl} {p_b : Sl} {K : Int → Heap → Prop} {H : Heap} (h : c_ref02_rows C p_a p_b (fun r0 H2 => ∃ H0, Gh C H2 H0 ∧ K r0 H0) H) : c_ref02_rows C p_a p_b K H :=
 Spec.gh (Spec.mono h fun _ H2 ⟨r0, hv, H0, hg, hk⟩ => ⟨H0, hg, r0, hv, hk⟩)
def c_cmp_Compare_uint8 (C : Ctx) (p_x : Int) (p_y : Int) (K : Int → Heap → Prop) (H : Heap) : Prop :=
 Spec Tryz.prog C 70 [.int .u8 p_x, .int .u8 p_y] H (fun v H2 => ∃ (r0 : Int), v = .int .i64 r0 ∧ K r0 H2)
theorem c_cmp_Compare_uint8.mono {C : Ctx} {p_x : Int} {p_y : Int} {K K2 : Int → Heap → Prop} {H : Heap} (h : c_cmp_Compare_uint8 C p_x p_y K H) (hk : ∀ r0 H2, K r0 H2 → K2 r0 H2) : c_cmp_Compare_uint8 C p_x p_y K2 H :=
 Spec.mono h fun _ H2 ⟨r0, hv, h2⟩ => ⟨r0, hv, hk r0 H2 h2⟩
theorem c_cmp_Compare_uint8.gh {C : Ctx} {p_x : Int} {p_y : Int} {K : Int → Heap → Prop} {H : Heap} (h : c_cmp_Compare_uint8 C p_x p_y (fun r0 H2 => ∃ H0, Gh C H2 H0 ∧ K r0 H0) H) : c_cmp_Compare_uint8 C p_x p_y K H :=
 Spec.gh (Spec.mono h fun _ H2 ⟨r0, hv, H0, hg, hk⟩ => ⟨H0, hg, r0, hv, hk⟩)
def c_value_bigs (C : Ctx) (p_a : Str) (p_b : Str) (K : Int → Heap → Prop) (H : Heap) : Prop :=
 Spec Tryz.prog C 71 [sv p_a, sv p_b] H (fun v H2 => ∃ (r0 : Int), v = .int .i64 r0 ∧ K r0 H2)
theorem c_value_bigs.mono {C : Ctx} {p_a : Str} {p_b : Str} {K K2 : Int → Heap → Prop} {H : Heap} (h : c_value_bigs C p_a p_b K H) (hk : ∀ r0 H2, K r0 H2 → K2 r0 H2) : c_value_bigs C p_a p_b K2 H :=
 Spec.mono h fun _ H2 ⟨r0, hv, h2⟩ => ⟨r0, hv, hk r0 H2 h2⟩
theorem c_value_bigs.gh {C : Ctx} {p_a : Str} {p_b : Str} {K : Int → Heap → Prop} {H : Heap} (h : c_value_bigs C p_a p_b (fun r0 H2 => ∃ H0, Gh C H2 H0 ∧ K r0 H0) H) : c_value_bigs C p_a p_b K H :=
 Spec.gh (Spec.mono h fun _ H2 ⟨r0, hv, H0, hg, hk⟩ => ⟨H0, hg, r0, hv, hk⟩)
def c_cmp_Compare_string (C : Ctx) (p_x : Str) (p_y : Str) (K : Int → Heap → Prop) (H : Heap) : Prop :=
 Spec Tryz.prog C 72 [sv p_x, sv p_y] H (fun v H2 => ∃ (r0 : Int), v = .int .i64 r0 ∧ K r0 H2)
theorem c_cmp_Compare_string.mono {C : Ctx} {p_x : Str} {p_y : Str} {K K2 : Int → Heap → Prop} {H : Heap} (h : c_cmp_Compare_string C p_x p_y K H) (hk : ∀ r0 H2, K r0 H2 → K2 r0 H2) : c_cmp_Compare_string C p_x p_y K2 H :=
 Spec.mono h fun _ H2 ⟨r0, hv, h2⟩ => ⟨r0, hv, hk r0 H2 h2⟩
theorem c_cmp_Compare_string.gh {C : Ctx} {p_x : Str} {p_y : Str} {K : Int → Heap → Prop} {H : Heap} (h : c_cmp_Compare_string C p_x p_y (fun r0 H2 => ∃ H0, Gh C H2 H0 ∧ K r0 H0) H) : c_cmp_Compare_string C p_x p_y K H :=
 Spec.gh (Spec.mono h fun _ H2 ⟨r0, hv, H0, hg, hk⟩ => ⟨H0, hg, r0, hv, hk⟩)
def c_cmp_Or_int (C : Ctx) (p_vals : Sl) (K : Int → Heap → Prop) (H : Heap) : Prop :=
 Spec Tryz.prog C 73 [slv p_vals] H (fun v H2 => ∃ (r0 : Int), v = .int .i64 r0 ∧ K r0 H2)
theorem c_cmp_Or_int.mono {C : Ctx} {p_vals : Sl} {K K2 : Int → Heap → Prop} {H : Heap} (h : c_cmp_Or_int C p_vals K H) (hk : ∀ r0 H2, K r0 H2 → K2 r0 H2) : c_cmp_Or_int C p_vals K2 H :=
 Spec.mono h fun _ H2 ⟨r0, hv, h2⟩ => ⟨r0, hv, hk r0 H2 h2⟩
theorem c_cmp_Or_int.gh {C : Ctx} {p_vals : Sl} {K : Int → Heap → Prop} {H : Heap} (h : c_cmp_Or_int C p_vals (fun r0 H2 => ∃ H0, Gh C H2 H0 ∧ K r0 H0) H) : c_cmp_Or_int C p_vals K H :=
 Spec.gh (Spec.mono h fun _ H2 ⟨r0, hv, H0, hg, hk⟩ => ⟨H0, hg, r0, hv, hk⟩)
def c_cmp_Compare_int64 (C : Ctx) (p_x : Int) (p_y : Int) (K : Int → Heap → Prop) (H : Heap) : Prop :=
 Spec Tryz.prog C 74 [.int .i64 p_x, .int .i64 p_y] H (fun v H2 => ∃ (r0 : Int), v = .int .i64 r0 ∧ K r0 H2)
theorem c_cmp_Compare_int64.mono {C : Ctx} {p_x : Int} {p_y : Int} {K K2 : Int → Heap → Prop} {H : Heap} (h : c_cmp_Compare_int64 C p_x p_y K H) (hk : ∀ r0 H2, K r0 H2 → K2 r0 H2) : c_cmp_Compare_int64 C p_x p_y K2 H :=
 Spec.mono h fun _ H2 ⟨r0, hv, h2⟩ => ⟨r0, hv, hk r0 H2 h2⟩
theorem c_cmp_Compare_int64.gh {C : Ctx} {p_x : Int} {p_y : Int} {K : Int → Heap → Prop} {H : Heap} (h : c_cmp_Compare_int64 C p_x p_y (fun r0 H2 => ∃ H0, Gh C H2 H0 ∧ K r0 H0) H) : c_cmp_Compare_int64 C p_x p_y K H :=
 Spec.gh (Spec.mono h fun _ H2 ⟨r0, hv, H0, hg, hk⟩ => ⟨H0, hg, r0, hv, hk⟩)
def c_strings_TrimPrefix (C : Ctx) (p_s : Str) (p_prefix : Str) (K : Str → Heap → Prop) (H : Heap) : Prop :=
 Spec Tryz.prog C 75 [sv p_s, sv p_prefix] H (fun v H2 => ∃ (r0 : Str), v = sv r0 ∧ K r0 H2)
theorem c_strings_TrimPrefix.mono {C : Ctx} {p_s : Str} {p_prefix : Str} {K K2 : Str → Heap → Prop} {H : Heap} (h : c_strings_TrimPrefix C p_s p_prefix K H) (hk : ∀ r0 H2, K r0 H2 → K2 r0 H2) : c_strings_TrimPrefix C p_s p_prefix K2 H :=
 Spec.mono h fun _ H2 ⟨r0, hv, h2⟩ => ⟨r0, hv, hk r0 H2 h2⟩
theorem c_strings_TrimPrefix.gh {C : Ctx} {p_s : Str} {p_prefix : Str} {K : Str → Heap → Prop} {H : Heap} (h : c_strings_TrimPrefix C p_s p_prefix (fun r0 H2 => ∃ H0, Gh C H2 H0 ∧ K r0 H0) H) : c_strings_TrimPrefix C p_s p_prefix K H :=
 Spec.gh (Spec.mono h fun _ H2 ⟨r0, hv, H0, hg, hk⟩ => ⟨H0, hg, r0, hv, hk⟩)
def c_strings_Trim (C : Ctx) (p_s : Str) (p_cutset : Str) (K : Str → Heap → Prop) (H : Heap) : Prop :=
 Spec Tryz.prog C 76 [sv p_s, sv p_cutset] H (fun v H2 => ∃ (r0 : Str), v = sv r0 ∧ K r0 H2)
theorem c_strings_Trim.mono {C : Ctx} {p_s : Str} {p_cutset : Str} {K K2 : Str → Heap → Prop} {H : Heap} (h : c_strings_Trim C p_s p_cutset K H) (hk : ∀ r0 H2, K r0 H2 → K2 r0 H2) : c_strings_Trim C p_s p_cutset K2 H :=
 Spec.mono h fun _ H2 ⟨r0, hv, h2⟩ => ⟨r0, hv, hk r0 H2 h2⟩
theorem c_strings_Trim.gh {C : Ctx} {p_s : Str} {p_cutset : Str} {K : Str → Heap → Prop} {H : Heap} (h : c_strings_Trim C p_s p_cutset (fun r0 H2 => ∃ H0, Gh C H2 H0 ∧ K r0 H0) H) : c_strings_Trim C p_s p_cutset K H :=
 Spec.gh (Spec.mono h fun _ H2 ⟨r0, hv, H0, hg, hk⟩ => ⟨H0, hg, r0, hv, hk⟩)
def c_internal_stringslite_Cut (C : Ctx) (p_s : Str) (p_sep : Str) (K : Str → Str → Bool → Heap → Prop) (H : Heap) : Prop :=
 Spec Tryz.prog C 77 [sv p_s, sv p_sep] H (fun v H2 => ∃ (r0 : Str) (r1 : Str) (r2 : Bool), v = .tuple #[sv r0, sv r1, .bool r2] ∧ K r0 r1 r2 H2)
theorem c_internal_stringslite_Cut.mono {C : Ctx} {p_s : Str} {p_sep : Str} {K K2 : Str → Str → Bool → Heap → Prop} {H : Heap} (h : c_internal_stringslite_Cut C p_s p_sep K H) (hk : ∀ r0 r1 r2 H2, K r0 r1 r2 H2 → K2 r0 r1 r2 H2) : c_internal_stringslite_Cut C p_s p_sep K2 H :=
 Spec.mono h fun _ H2 ⟨r0, r1, r2, hv, h2⟩ => ⟨r0, r1, r2, hv, hk r0 r1 r2 H2 h2⟩
theorem c_internal_stringslite_Cut.gh {C : Ctx} {p_s : Str} {p_sep : Str} {K : Str → Str → Bool → Heap → Prop} {H : Heap} (h : c_internal_stringslite_Cut C p_s p_sep (fun r0 r1 r2 H2 => ∃ H0, Gh C H2 H0 ∧ K r0 r1 r2 H0) H) : c_internal_stringslite_Cut C p_s p_sep K H :=
 Spec.gh (Spec.mono h fun _ H2 ⟨r0, r1, r2, hv, H0, hg, hk⟩ => ⟨H0, hg, r0, r1, r2, hv, hk⟩)
def c_slices_insertionSortCmpFunc_zset_Entry (C : Ctx) (p_data : Sl) (p_a : Int) (p_b : Int) (p_cmp : Value) (K : Heap → Prop) (H : Heap) : Prop :=
 Spec Tryz.prog C 80 [slv p_data, .int .i64 p_a, .int .i64 p_b, p_cmp] H (fun v H2 => v = .tuple #[] ∧ K H2)
theorem c_slices_insertionSortCmpFunc_zset_Entry.mono {C : Ctx} {p_data : Sl} {p_a : Int} {p_b : Int} {p_cmp : Value} {K K2 : Heap → Prop} {H : Heap} (h : c_slices_insertionSortCmpFunc_zset_Entry C p_data p_a p_b p_cmp K H) (hk : ∀  H2, K  H2 → K2  H2) : c_slices_insertionSortCmpFunc_zset_Entry C p_data p_a p_b p_cmp K2 H :=
 Spec.mono h fun _ H2 ⟨hv, h2⟩ => ⟨hv, hk H2 h2⟩
theorem c_slices_insertionSortCmpFunc_zset_Entry.gh {C : Ctx} {p_data : Sl} {p_a : Int} {p_b : Int} {p_cmp : Value} {K : Heap → Prop} {H : Heap} (h : c_slices_insertionSortCmpFunc_zset_Entry C p_data p_a p_b p_cmp (fun  H2 => ∃ H0, Gh C H2 H0 ∧ K  H0) H) : c_slices_insertionSortCmpFunc_zset_Entry C p_data p_a p_b p_cmp K H :=
 Spec.gh (Spec.mono h fun _ H2 ⟨hv, H0, hg, hk⟩ => ⟨H0, hg, hv, hk⟩)
def c_slices_symMergeCmpFunc_zset_Entry (C : Ctx) (p_data : Sl) (p_a : Int) (p_m : Int) (p_b : Int) (p_cmp : Value) (K : Heap → Prop) (H : Heap) : Prop :=
 Spec Tryz.prog C 81 [slv p_data, .int .i64 p_a, .int .i64 p_m, .int .i64 p_b, p_cmp] H (fun v H2 => v = .tuple #[] ∧ K H2)
theorem c_slices_symMergeCmpFunc_zset_Entry.mono {C : Ctx} {p_data : Sl} {p_a : Int} {p_m : Int} {p_b : Int} {p_cmp : Value} {K K2 : Heap → Prop} {H : Heap} (h : c_slices_symMergeCmpFunc_zset_Entry C p_data p_a p_m p_b p_cmp K H) (hk : ∀  H2, K  H2 → K2  H2) : c_slices_symMergeCmpFunc_zset_Entry C p_data p_a p_m p_b p_cmp K2 H :=
 Spec.mono h fun _ H2 ⟨hv, h2⟩ => ⟨hv, hk H2 h2⟩
theorem c_slices_symMergeCmpFunc_zset_Entry.gh {C : Ctx} {p_data : Sl} {p_a : Int} {p_m : Int} {p_b : Int} {p_cmp : Value} {K : Heap → Prop} {H : Heap} (h : c_slices_symMergeCmpFunc_zset_Entry C p_data p_a p_m p_b p_cmp (fun  H2 => ∃ H0, Gh C H2 H0 ∧ K  H0) H) : c_slices_symMergeCmpFunc_zset_Entry C p_data p_a p_m p_b p_cmp K H :=
 Spec.gh (Spec.mono h fun _ H2 ⟨hv, H0, hg, hk⟩ => ⟨H0, hg, hv, hk⟩)
def c_ref02_Check (C : Ctx) (p_v : T_api_Value) (K : Int → Heap → Prop) (H : Heap) : Prop :=
 Spec Tryz.prog C 82 [.agg (T_api_Value.c p_v).toArray] H (fun v H2 => ∃ (r0 : Int), v = .int .i64 r0 ∧ K r0 H2)
theorem c_ref02_Check.mono {C : Ctx} {p_v : T_api_Value} {K K2 : Int → Heap → Prop} {H : Heap} (h : c_ref02_Check C p_v K H) (hk : ∀ r0 H2, K r0 H2 → K2 r0 H2) : c_ref02_Check C p_v K2 H :=
 Spec.mono h fun _ H2 ⟨r0, hv, h2⟩ => ⟨r0, hv, hk r0 H2 h2⟩
theorem c_ref02_Check.gh {C : Ctx} {p_v : T_api_Value} {K : Int → Heap → Prop} {H : Heap} (h : c_ref02_Check C p_v (fun r0 H2 => ∃ H0, Gh C H2 H0 ∧ K r0 H0) H) : c_ref02_Check C p_v K H :=
 Spec.gh (Spec.mono h fun _ H2 ⟨r0, hv, H0, hg, hk⟩ => ⟨H0, hg, r0, hv, hk⟩)
def c_ref02_cmp (C : Ctx) (p_a : T_api_Value) (p_b : T_api_Value) (K : Int → Heap → Prop) (H : Heap) : Prop :=
 Spec Tryz.prog C 83 [.agg (T_api_Value.c p_a).toArray, .agg (T_api_Value.c p_b).toArray] H (fun v H2 => ∃ (r0 : Int), v = .int .i64 r0 ∧ K r0 H2)
theorem c_ref02_cmp.mono {C : Ctx} {p_a : T_api_Value} {p_b : T_api_Value} {K K2 : Int → Heap → Prop} {H : Heap} (h : c_ref02_cmp C p_a p_b K H) (hk : ∀ r0 H2, K r0 H2 → K2 r0 H2) : c_ref02_cmp C p_a p_b K2 H :=
 Spec.mono h fun _ H2 ⟨r0, hv, h2⟩ => ⟨r0, hv, hk r0 H2 h2⟩
theorem c_ref02_cmp.gh {C : Ctx} {p_a : T_api_Value} {p_b : T_api_Value} {K : Int → Heap → Prop} {H : Heap} (h : c_ref02_cmp C p_a p_b (fun r0 H2 => ∃ H0, Gh C H2 H0 ∧ K r0 H0) H) : c_ref02_cmp C p_a p_b K H :=
 Spec.gh (Spec.mono h fun _ H2 ⟨r0, hv, H0, hg, hk⟩ => ⟨H0, hg, r0, hv, hk⟩)
def c_ref02_ints (C : Ctx) (p_a : Int) (p_b : Int) (K : Int → Heap → Prop) (H : Heap) : Prop :=
 Spec Tryz.prog C 84 [.int .i64 p_a, .int .i64 p_b] H (fun v H2 => ∃ (r0 : Int), v = .int .i64 r0 ∧ K r0 H2)
theorem c_ref02_ints.mono {C : Ctx} {p_a : Int} {p_b : Int} {K K2 : Int → Heap → Prop} {H : Heap} (h : c_ref02_ints C p_a p_b K H) (hk : ∀ r0 H2, K r0 H2 → K2 r0 H2) : c_ref02_ints C p_a p_b K2 H :=
 Spec.mono h fun _ H2 ⟨r0, hv, h2⟩ => ⟨r0, hv, hk r0 H2 h2⟩
theorem c_ref02_ints.gh {C : Ctx} {p_a : Int} {p_b : Int} {K : Int → Heap → Prop} {H : Heap} (h : c_ref02_ints C p_a p_b (fun r0 H2 => ∃ H0, Gh C H2 H0 ∧ K r0 H0) H) : c_ref02_ints C p_a p_b K H :=
 Spec.gh (Spec.mono h fun _ H2 ⟨r0, hv, H0, hg, hk⟩ => ⟨H0, hg, r0, hv, hk⟩)
def c_cmp_isNaN_uint8 (C : Ctx) (p_x : Int) (K : Bool → Heap → Prop) (H : Heap) : Prop :=
 Spec Tryz.prog C 85 [.int .u8 p_x] H (fun v H2 => ∃ (r0 : Bool), v = .bool r0 ∧ K r0 H2)
theorem c_cmp_isNaN_uint8.mono {C : Ctx} {p_x : Int} {K K2 : Bool → Heap → Prop} {H : Heap} (h : c_cmp_isNaN_uint8 C p_x K H) (hk : ∀ r0 H2, K r0 H2 → K2 r0 H2) : c_cmp_isNaN_uint8 C p_x K2 H :=
 Spec.mono h fun _ H2 ⟨r0, hv, h2⟩ => ⟨r0, hv, hk r0 H2 h2⟩
theorem c_cmp_isNaN_uint8.gh {C : Ctx} {p_x : Int} {K : Bool → Heap → Prop} {H : Heap} (h : c_cmp_isNaN_uint8 C p_x (fun r0 H2 => ∃ H0, Gh C H2 H0 ∧ K r0 H0) H) : c_cmp_isNaN_uint8 C p_x K H :=
 Spec.gh (Spec.mono h fun _ H2 ⟨r0, hv, H0, hg, hk⟩ => ⟨H0, hg, r0, hv, hk⟩)
def c_strings_HasPrefix (C : Ctx) (p_s : Str) (p_prefix : Str) (K : Bool → Heap → Prop) (H : Heap) : Prop :=
 Spec Tryz.prog C 86 [sv p_s, sv p_prefix] H (fun v H2 => ∃ (r0 : Bool), v = .bool r0 ∧ K r0 H2)
theorem c_strings_HasPrefix.mono {C : Ctx} {p_s : Str} {p_prefix : Str} {K K2 : Bool → Heap → Prop} {H : Heap} (h : c_strings_HasPrefix C p_s p_prefix K H) (hk : ∀ r0 H2, K r0 H2 → K2 r0 H2) : c_strings_HasPrefix C p_s p_prefix K2 H :=
 Spec.mono h fun _ H2 ⟨r0, hv, h2⟩ => ⟨r0, hv, hk r0 H2 h2⟩
theorem c_strings_HasPrefix.gh {C : Ctx} {p_s : Str} {p_prefix : Str} {K : Bool → Heap → Prop} {H : Heap} (h : c_strings_HasPrefix C p_s p_prefix (fun r0 H2 => ∃ H0, Gh C H2 H0 ∧ K r0 H0) H) : c_strings_HasPrefix C p_s p_prefix K H :=
 Spec.gh (Spec.mono h fun _ H2 ⟨r0, hv, H0, hg, hk⟩ => ⟨H0, hg, r0, hv, hk⟩)
def c_cmp_Compare_int (C : Ctx) (p_x : Int) (p_y : Int) (K : Int → Heap → Prop) (H : Heap) : Prop :=
 Spec Tryz.prog C 87 [.int .i64 p_x, .int .i64 p_y] H (fun v H2 => ∃ (r0 : Int), v = .int .i64 r0 ∧ K r0 H2)
theorem c_cmp_Compare_int.mono {C : Ctx} {p_x : Int} {p_y : Int} {K K2 : Int → Heap → Prop} {H : Heap} (h : c_cmp_Compare_int C p_x p_y K H) (hk : ∀ r0 H2, K r0 H2 → K2 r0 H2) : c_cmp_Compare_int C p_x p_y K2 H :=
 Spec.mono h fun _ H2 ⟨r0, hv, h2⟩ => ⟨r0, hv, hk r0 H2 h2⟩
theorem c_cmp_Compare_int.gh {C : Ctx} {p_x : Int} {p_y : Int} {K : Int → Heap → Prop} {H : Heap} (h : c_cmp_Compare_int C p_x p_y (fun r0 H2 => ∃ H0, Gh C H2 H0 ∧ K r0 H0) H) : c_cmp_Compare_int C p_x p_y K H :=
 Spec.gh (Spec.mono h fun _ H2 ⟨r0, hv, H0, hg, hk⟩ => ⟨H0, hg, r0, hv, hk⟩)
def c_cmp_isNaN_string (C : Ctx) (p_x : Str) (K : Bool → Heap → Prop) (H : Heap) : Prop :=
 Spec Tryz.prog C 88 [sv p_x] H (fun v H2 => ∃ (r0 : Bool), v = .bool r0 ∧ K r0 H2)
theorem c_cmp_isNaN_string.mono {C : Ctx} {p_x : Str} {K K2 : Bool → Heap → Prop} {H : Heap} (h : c_cmp_isNaN_string C p_x K H) (hk : ∀ r0 H2, K r0 H2 → K2 r0 H2) : c_cmp_isNaN_string C p_x K2 H :=
 Spec.mono h fun _ H2 ⟨r0, hv, h2⟩ => ⟨r0, hv, hk r0 H2 h2⟩
theorem c_cmp_isNaN_string.gh {C : Ctx} {p_x : Str} {K : Bool → Heap → Prop} {H : Heap} (h : c_cmp_isNaN_string C p_x (fun r0 H2 => ∃ H0, Gh C H2 H0 ∧ K r0 H0) H) : c_cmp_isNaN_string C p_x K H :=
 Spec.gh (Spec.mono h fun _ H2 ⟨r0, hv, H0, hg, hk⟩ => ⟨H0, hg, r0, hv, hk⟩)
def c_cmp_isNaN_int64 (C : Ctx) (p_x : Int) (K : Bool → Heap → Prop) (H : Heap) : Prop :=
 Spec Tryz.prog C 89 [.int .i64 p_x] H (fun v H2 => ∃ (r0 : Bool), v = .bool r0 ∧ K r0 H2)
theorem c_cmp_isNaN_int64.mono {C : Ctx} {p_x : Int} {K K2 : Bool → Heap → Prop} {H : Heap} (h : c_cmp_isNaN_int64 C p_x K H) (hk : ∀ r0 H2, K r0 H2 → K2 r0 H2) : c_cmp_isNaN_int64 C p_x K2 H :=
 Spec.mono h fun _ H2 ⟨r0, hv, h2⟩ => ⟨r0, hv, hk r0 H2 h2⟩
theorem c_cmp_isNaN_int64.gh {C : Ctx} {p_x : Int} {K : Bool → Heap → Prop} {H : Heap} (h : c_cmp_isNaN_int64 C p_x (fun r0 H2 => ∃ H0, Gh C H2 H0 ∧ K r0 H0) H) : c_cmp_isNaN_int64 C p_x K H :=
 Spec.gh (Spec.mono h fun _ H2 ⟨r0, hv, H0, hg, hk⟩ => ⟨H0, hg, r0, hv, hk⟩)
def c_internal_stringslite_TrimPrefix (C : Ctx) (p_s : Str) (p_prefix : Str) (K : Str → Heap → Prop) (H : Heap) : Prop :=
 Spec Tryz.prog C 90 [sv p_s, sv p_prefix] H (fun v H2 => ∃ (r0 : Str), v = sv r0 ∧ K r0 H2)
theorem c_internal_stringslite_TrimPrefix.mono {C : Ctx} {p_s : Str} {p_prefix : Str} {K K2 : Str → Heap → Prop} {H : Heap} (h : c_internal_stringslite_TrimPrefix C p_s p_prefix K H) (hk : ∀ r0 H2, K r0 H2 → K2 r0 H2) : c_internal_stringslite_TrimPrefix C p_s p_prefix K2 H :=
 Spec.mono h fun _ H2 ⟨r0, hv, h2⟩ => ⟨r0, hv, hk r0 H2 h2⟩
theorem c_internal_stringslite_TrimPrefix.gh {C : Ctx} {p_s : Str} {p_prefix : Str} {K : Str → Heap → Prop} {H : Heap} (h : c_internal_stringslite_TrimPrefix C p_s p_prefix (fun r0 H2 => ∃ H0, Gh C H2 H0 ∧ K r0 H0) H) : c_internal_stringslite_TrimPrefix C p_s p_prefix K H :=
 Spec.gh (Spec.mono h fun _ H2 ⟨r0, hv, H0, hg, hk⟩ => ⟨H0, hg, r0, hv, hk⟩)
def c_strings_trimLeftByte (C : Ctx) (p_s : Str) (p_c : Int) (K : Str → Heap → Prop) (H : Heap) : Prop :=
 Spec Tryz.prog C 91 [sv p_s, .int .u8 p_c] H (fun v H2 => ∃ (r0 : Str), v = sv r0 ∧ K r0 H2)
theorem c_strings_trimLeftByte.mono {C : Ctx} {p_s : Str} {p_c : Int} {K K2 : Str → Heap → Prop} {H : Heap} (h : c_strings_trimLeftByte C p_s p_c K H) (hk : ∀ r0 H2, K r0 H2 → K2 r0 H2) : c_strings_trimLeftByte C p_s p_c K2 H :=
 Spec.mono h fun _ H2 ⟨r0, hv, h2⟩ => ⟨r0, hv, hk r0 H2 h2⟩
theorem c_strings_trimLeftByte.gh {C : Ctx} {p_s : Str} {p_c : Int} {K : Str → Heap → Prop} {H : Heap} (h : c_strings_trimLeftByte C p_s p_c (fun r0 H2 => ∃ H0, Gh C H2 H0 ∧ K r0 H0) H) : c_strings_trimLeftByte C p_s p_c K H :=
 Spec.gh (Spec.mono h fun _ H2 ⟨r0, hv, H0, hg, hk⟩ => ⟨H0, hg, r0, hv, hk⟩)
def c_strings_trimRightByte (C : Ctx) (p_s : Str) (p_c : Int) (K : Str → Heap → Prop) (H : Heap) : Prop :=
 Spec Tryz.prog C 92 [sv p_s, .int .u8 p_c] H (fun v H2 => ∃ (r0 : Str), v = sv r0 ∧ K r0 H2)
theorem c_strings_trimRightByte.mono {C : Ctx} {p_s : Str} {p_c : Int} {K K2 : Str → Heap → Prop} {H : Heap} (h : c_strings_trimRightByte C p_s p_c K H) (hk : ∀ r0 H2, K r0 H2 → K2 r0 H2) : c_strings_trimRightByte C p_s p_c K2 H :=
 Spec.mono h fun _ H2 ⟨r0, hv, h2⟩ => ⟨r0, hv, hk r0 H2 h2⟩
theorem c_strings_trimRightByte.gh {C : Ctx} {p_s : Str} {p_c : Int} {K : Str → Heap → Prop} {H : Heap} (h : c_strings_trimRightByte C p_s p_c (fun r0 H2 => ∃ H0, Gh C H2 H0 ∧ K r0 H0) H) : c_strings_trimRightByte C p_s p_c K H :=
 Spec.gh (Spec.mono h fun _ H2 ⟨r0, hv, H0, hg, hk⟩ => ⟨H0, hg, r0, hv, hk⟩)
def c_strings_makeASCIISet (C : Ctx) (p_chars : Str) (K : List Value → Bool → Heap → Prop) (H : Heap) : Prop :=
 Spec Tryz.prog C 93 [sv p_chars] H (fun v H2 => ∃ (r0 : List Value) (r1 : Bool), v = .tuple #[.agg (List.toArray r0), .bool r1] ∧ K r0 r1 H2)
theorem c_strings_makeASCIISet.mono {C : Ctx} {p_chars : Str} {K K2 : List Value → Bool → Heap → Prop} {H : Heap} (h : c_strings_makeASCIISet C p_chars K H) (hk : ∀ r0 r1 H2, K r0 r1 H2 → K2 r0 r1 H2) : c_strings_makeASCIISet C p_chars K2 H :=
 Spec.mono h fun _ H2 ⟨r0, r1, hv, h2⟩ => ⟨r0, r1, hv, hk r0 r1 H2 h2⟩
theorem c_strings_makeASCIISet.gh {C : Ctx} {p_chars : Str} {K : List Value → Bool → Heap → Prop} {H : Heap} (h : c_strings_makeASCIISet C p_chars (fun r0 r1 H2 => ∃ H0, Gh C H2 H0 ∧ K r0 r1 H0) H) : c_strings_makeASCIISet C p_chars K H :=
 Spec.gh (Spec.mono h fun _ H2 ⟨r0, r1, hv, H0, hg, hk⟩ => ⟨H0, hg, r0, r1, hv, hk⟩)
def c_strings_trimLeftASCII (C : Ctx) (p_s : Str) (p_as : Option (Nat × Nat)) (K : Str → Heap → Prop) (H : Heap) : Prop :=
 Spec Tryz.prog C 94 [sv p_s, pv p_as] H (fun v H2 => ∃ (r0 : Str), v = sv r0 ∧ K r0 H2)
theorem c_strings_trimLeftASCII.mono {C : Ctx} {p_s : Str} {p_as : Option (Nat × Nat)} {K K2 : Str → Heap → Prop} {H : Heap} (h : c_strings_trimLeftASCII C p_s p_as K H) (hk : ∀ r0 H2, K r0 H2 → K2 r0 H2) : c_strings_trimLeftASCII C p_s p_as K2 H :=
 Spec.mono h fun _ H2 ⟨r0, hv, h2⟩ => ⟨r0, hv, hk r0 H2 h2⟩
theorem c_strings_trimLeftASCII.gh {C : Ctx} {p_s : Str} {p_as : Option (Nat × Nat)} {K : Str → Heap → Prop} {H : Heap} (h : c_strings_trimLeftASCII C p_s p_as (fun r0 H2 => ∃ H0, Gh C H2 H0 ∧ K r0 H0) H) : c_strings_trimLeftASCII C p_s p_as K H :=
 Spec.gh (Spec.mono h fun _ H2 ⟨r0, hv, H0, hg, hk⟩ => ⟨H0, hg, r0, hv, hk⟩)
def c_strings_trimRightASCII (C : Ctx) (p_s : Str) (p_as : Option (Nat × Nat)) (K : Str → Heap → Prop) (H : Heap) : Prop :=
 Spec Tryz.prog C 95 [sv p_s, pv p_as] H (fun v H2 => ∃ (r0 : Str), v = sv r0 ∧ K r0 H2)
theorem c_strings_trimRightASCII.mono {C : Ctx} {p_s : Str} {p_as : Option (Nat × Nat)} {K K2 : Str → Heap → Prop} {H : Heap} (h : c_strings_trimRightASCII C p_s p_as K H) (hk : ∀ r0 H2, K r0 H2 → K2 r0 H2) : c_strings_trimRightASCII C p_s p_as K2 H :=
 Spec.mono h fun _ H2 ⟨r0, hv, h2⟩ => ⟨r0, hv, hk r0 H2 h2⟩
theorem c_strings_trimRightASCII.gh {C : Ctx} {p_s : Str} {p_as : Option (Nat × Nat)} {K : Str → Heap → Prop} {H : Heap} (h : c_strings_trimRightASCII C p_s p_as (fun r0 H2 => ∃ H0, Gh C H2 H0 ∧ K r0 H0) H) : c_strings_trimRightASCII C p_s p_as K H :=
 Spec.gh (Spec.mono h fun _ H2 ⟨r0, hv, H0, hg, hk⟩ => ⟨H0, hg, r0, hv, hk⟩)
def c_strings_trimLeftUnicode (C : Ctx) (p_s : Str) (p_cutset : Str) (K : Str → Heap → Prop) (H : Heap) : Prop :=
 Spec Tryz.prog C 96 [sv p_s, sv p_cutset] H (fun v H2 => ∃ (r0 : Str), v = sv r0 ∧ K r0 H2)
theorem c_strings_trimLeftUnicode.mono {C : Ctx} {p_s : Str} {p_cutset : Str} {K K2 : Str → Heap → Prop} {H : Heap} (h : c_strings_trimLeftUnicode C p_s p_cutset K H) (hk : ∀ r0 H2, K r0 H2 → K2 r0 H2) : c_strings_trimLeftUnicode C p_s p_cutset K2 H :=
 Spec.mono h fun _ H2 ⟨r0, hv, h2⟩ => ⟨r0, hv, hk r0 H2 h2⟩
theorem c_strings_trimLeftUnicode.gh {C : Ctx} {p_s : Str} {p_cutset : Str} {K : Str → Heap → Prop} {H : Heap} (h : c_strings_trimLeftUnicode C p_s p_cutset (fun r0 H2 => ∃ H0, Gh C H2 H0 ∧ K r0 H0) H) : c_strings_trimLeftUnicode C p_s p_cutset K H :=
 Spec.gh (Spec.mono h fun _ H2 ⟨r0, hv, H0, hg, hk⟩ => ⟨H0, hg, r0, hv, hk⟩)
def c_strings_trimRightUnicode (C : Ctx) (p_s : Str) (p_cutset : Str) (K : Str → Heap → Prop) (H : Heap) : Prop :=
 Spec Tryz.prog C 97 [sv p_s, sv p_cutset] H (fun v H2 => ∃ (r0 : Str), v = sv r0 ∧ K r0 H2)
theorem c_strings_trimRightUnicode.mono {C : Ctx} {p_s : Str} {p_cutset : Str} {K K2 : Str → Heap → Prop} {H : Heap} (h : c_strings_trimRightUnicode C p_s p_cutset K H) (hk : ∀ r0 H2, K r0 H2 → K2 r0 H2) : c_strings_trimRightUnicode C p_s p_cutset K2 H :=
 Spec.mono h fun _ H2 ⟨r0, hv, h2⟩ => ⟨r0, hv, hk r0 H2 h2⟩
theorem c_strings_trimRightUnicode.gh {C : Ctx} {p_s : Str} {p_cutset : Str} {K : Str → Heap → Prop} {H : Heap} (h : c_strings_trimRightUnicode C p_s p_cutset (fun r0 H2 => ∃ H0, Gh C H2 H0 ∧ K r0 H0) H) : c_strings_trimRightUnicode C p_s p_cutset K H :=
 Spec.gh (Spec.mono h fun _ H2 ⟨r0, hv, H0, hg, hk⟩ => ⟨H0, hg, r0, hv, hk⟩)
def c_internal_stringslite_Index (C : Ctx) (p_s : Str) (p_substr : Str) (K : Int → Heap → Prop) (H : Heap) : Prop :=
 Spec Tryz.prog C 98 [sv p_s, sv p_substr] H (fun v H2 => ∃ (r0 : Int), v = .int .i64 r0 ∧ K r0 H2)
theorem c_internal_stringslite_Index.mono {C : Ctx} {p_s : Str} {p_substr : Str} {K K2 : Int → Heap → Prop} {H : Heap} (h : c_internal_stringslite_Index C p_s p_substr K H) (hk : ∀ r0 H2, K r0 H2 → K2 r0 H2) : c_internal_stringslite_Index C p_s p_substr K2 H :=
 Spec.mono h fun _ H2 ⟨r0, hv, h2⟩ => ⟨r0, hv, hk r0 H2 h2⟩
theorem c_internal_stringslite_Index.gh {C : Ctx} {p_s : Str} {p_substr : Str} {K : Int → Heap → Prop} {H : Heap} (h : c_internal_stringslite_Index C p_s p_substr (fun r0 H2 => ∃ H0, Gh C H2 H0 ∧ K r0 H0) H) : c_internal_stringslite_Index C p_s p_substr K H :=
 Spec.gh (Spec.mono h fun _ H2 ⟨r0, hv, H0, hg, hk⟩ => ⟨H0, hg, r0, hv, hk⟩)
def c_slices_rotateCmpFunc_zset_Entry (C : Ctx) (p_data : Sl) (p_a : Int) (p_m : Int) (p_b : Int) (p_cmp : Value) (K : Heap → Prop) (H : Heap) : Prop :=
 Spec Tryz.prog C 100 [slv p_data, .int .i64 p_a, .int .i64 p_m, .int .i64 p_b, p_cmp] H (fun v H2 => v = .tuple #[] ∧ K H2)
theorem c_slices_rotateCmpFunc_zset_Entry.mono {C : Ctx} {p_data : Sl} {p_a : Int} {p_m : Int} {p_b : Int} {p_cmp : Value} {K K2 : Heap → Prop} {H : Heap} (h : c_slices_rotateCmpFunc_zset_Entry C p_data p_a p_m p_b p_cmp K H) (hk : ∀  H2, K  H2 → K2  H2) : c_slices_rotateCmpFunc_zset_Entry C p_data p_a p_m p_b p_cmp K2 H :=
 Spec.mono h fun _ H2 ⟨hv, h2⟩ => ⟨hv, hk H2 h2⟩
theorem c_slices_rotateCmpFunc_zset_Entry.gh {C : Ctx} {p_data : Sl} {p_a : Int} {p_m : Int} {p_b : Int} {p_cmp : Value} {K : Heap → Prop} {H : Heap} (h : c_slices_rotateCmpFunc_zset_Entry C p_data p_a p_m p_b p_cmp (fun  H2 => ∃ H0, Gh C H2 H0 ∧ K  H0) H) : c_slices_rotateCmpFunc_zset_Entry C p_data p_a p_m p_b p_cmp K H :=
 Spec.gh (Spec.mono h fun _ H2 ⟨hv, H0, hg, hk⟩ => ⟨H0, hg, hv, hk⟩)
def c_ref02_Depth (C : Ctx) (p_v : T_api_Value) (K : Int → Heap → Prop) (H : Heap) : Prop :=
 Spec Tryz.prog C 101 [.agg (T_api_Value.c p_v).toArray] H (fun v H2 => ∃ (r0 : Int), v = .int .i64 r0 ∧ K r0 H2)
theorem c_ref02_Depth.mono {C : Ctx} {p_v : T_api_Value} {K K2 : Int → Heap → Prop} {H : Heap} (h : c_ref02_Depth C p_v K H) (hk : ∀ r0 H2, K r0 H2 → K2 r0 H2) : c_ref02_Depth C p_v K2 H :=
 Spec.mono h fun _ H2 ⟨r0, hv, h2⟩ => ⟨r0, hv, hk r0 H2 h2⟩
theorem c_ref02_Depth.gh {C : Ctx} {p_v : T_api_Value} {K : Int → Heap → Prop} {H : Heap} (h : c_ref02_Depth C p_v (fun r0 H2 => ∃ H0, Gh C H2 H0 ∧ K r0 H0) H) : c_ref02_Depth C p_v K H :=
 Spec.gh (Spec.mono h fun _ H2 ⟨r0, hv, H0, hg, hk⟩ => ⟨H0, hg, r0, hv, hk⟩)
def c_ref02_form (C : Ctx) (p_v : T_api_Value) (K : Bool → Heap → Prop) (H : Heap) : Prop :=
 Spec Tryz.prog C 102 [.agg (T_api_Value.c p_v).toArray] H (fun v H2 => ∃ (r0 : Bool), v = .bool r0 ∧ K r0 H2)
theorem c_ref02_form.mono {C : Ctx} {p_v : T_api_Value} {K K2 : Bool → Heap → Prop} {H : Heap} (h : c_ref02_form C p_v K H) (hk : ∀ r0 H2, K r0 H2 → K2 r0 H2) : c_ref02_form C p_v K2 H :=
 Spec.mono h fun _ H2 ⟨r0, hv, h2⟩ => ⟨r0, hv, hk r0 H2 h2⟩
theorem c_ref02_form.gh {C : Ctx} {p_v : T_api_Value} {K : Bool → Heap → Prop} {H : Heap} (h : c_ref02_form C p_v (fun r0 H2 => ∃ H0, Gh C H2 H0 ∧ K r0 H0) H) : c_ref02_form C p_v K H :=
 Spec.gh (Spec.mono h fun _ H2 ⟨r0, hv, H0, hg, hk⟩ => ⟨H0, hg, r0, hv, hk⟩)
def c_ref02_fits (C : Ctx) (p_v : T_api_Value) (K : Bool → Heap → Prop) (H : Heap) : Prop :=
 Spec Tryz.prog C 103 [.agg (T_api_Value.c p_v).toArray] H (fun v H2 => ∃ (r0 : Bool), v = .bool r0 ∧ K r0 H2)
theorem c_ref02_fits.mono {C : Ctx} {p_v : T_api_Value} {K K2 : Bool → Heap → Prop} {H : Heap} (h : c_ref02_fits C p_v K H) (hk : ∀ r0 H2, K r0 H2 → K2 r0 H2) : c_ref02_fits C p_v K2 H :=
 Spec.mono h fun _ H2 ⟨r0, hv, h2⟩ => ⟨r0, hv, hk r0 H2 h2⟩
theorem c_ref02_fits.gh {C : Ctx} {p_v : T_api_Value} {K : Bool → Heap → Prop} {H : Heap} (h : c_ref02_fits C p_v (fun r0 H2 => ∃ H0, Gh C H2 H0 ∧ K r0 H0) H) : c_ref02_fits C p_v K H :=
 Spec.gh (Spec.mono h fun _ H2 ⟨r0, hv, H0, hg, hk⟩ => ⟨H0, hg, r0, hv, hk⟩)
def c_ref02_Bigs (C : Ctx) (p_a : Str) (p_b : Str) (K : Int → Heap → Prop) (H : Heap) : Prop :=
 Spec Tryz.prog C 104 [sv p_a, sv p_b] H (fun v H2 => ∃ (r0 : Int), v = .int .i64 r0 ∧ K r0 H2)
theorem c_ref02_Bigs.mono {C : Ctx} {p_a : Str} {p_b : Str} {K K2 : Int → Heap → Prop} {H : Heap} (h : c_ref02_Bigs C p_a p_b K H) (hk : ∀ r0 H2, K r0 H2 → K2 r0 H2) : c_ref02_Bigs C p_a p_b K2 H :=
 Spec.mono h fun _ H2 ⟨r0, hv, h2⟩ => ⟨r0, hv, hk r0 H2 h2⟩
theorem c_ref02_Bigs.gh {C : Ctx} {p_a : Str} {p_b : Str} {K : Int → Heap → Prop} {H : Heap} (h : c_ref02_Bigs C p_a p_b (fun r0 H2 => ∃ H0, Gh C H2 H0 ∧ K r0 H0) H) : c_ref02_Bigs C p_a p_b K H :=
 Spec.gh (Spec.mono h fun _ H2 ⟨r0, hv, H0, hg, hk⟩ => ⟨H0, hg, r0, hv, hk⟩)
def c_ref02_texts (C : Ctx) (p_a : Str) (p_b : Str) (K : Int → Heap → Prop) (H : Heap) : Prop :=
 Spec Tryz.prog C 105 [sv p_a, sv p_b] H (fun v H2 => ∃ (r0 : Int), v = .int .i64 r0 ∧ K r0 H2)
theorem c_ref02_texts.mono {C : Ctx} {p_a : Str} {p_b : Str} {K K2 : Int → Heap → Prop} {H : Heap} (h : c_ref02_texts C p_a p_b K H) (hk : ∀ r0 H2, K r0 H2 → K2 r0 H2) : c_ref02_texts C p_a p_b K2 H :=
 Spec.mono h fun _ H2 ⟨r0, hv, h2⟩ => ⟨r0, hv, hk r0 H2 h2⟩
theorem c_ref02_texts.gh {C : Ctx} {p_a : Str} {p_b : Str} {K : Int → Heap → Prop} {H : Heap} (h : c_ref02_texts C p_a p_b (fun r0 H2 => ∃ H0, Gh C H2 H0 ∧ K r0 H0) H) : c_ref02_texts C p_a p_b K H :=
 Spec.gh (Spec.mono h fun _ H2 ⟨r0, hv, H0, hg, hk⟩ => ⟨H0, hg, r0, hv, hk⟩)
def c_internal_stringslite_HasPrefix (C : Ctx) (p_s : Str) (p_prefix : Str) (K : Bool → Heap → Prop) (H : Heap) : Prop :=
 Spec Tryz.prog C 106 [sv p_s, sv p_prefix] H (fun v H2 => ∃ (r0 : Bool), v = .bool r0 ∧ K r0 H2)
theorem c_internal_stringslite_HasPrefix.mono {C : Ctx} {p_s : Str} {p_prefix : Str} {K K2 : Bool → Heap → Prop} {H : Heap} (h : c_internal_stringslite_HasPrefix C p_s p_prefix K H) (hk : ∀ r0 H2, K r0 H2 → K2 r0 H2) : c_internal_stringslite_HasPrefix C p_s p_prefix K2 H :=
 Spec.mono h fun _ H2 ⟨r0, hv, h2⟩ => ⟨r0, hv, hk r0 H2 h2⟩
theorem c_internal_stringslite_HasPrefix.gh {C : Ctx} {p_s : Str} {p_prefix : Str} {K : Bool → Heap → Prop} {H : Heap} (h : c_internal_stringslite_HasPrefix C p_s p_prefix (fun r0 H2 => ∃ H0, Gh C H2 H0 ∧ K r0 H0) H) : c_internal_stringslite_HasPrefix C p_s p_prefix K H :=
 Spec.gh (Spec.mono h fun _ H2 ⟨r0, hv, H0, hg, hk⟩ => ⟨H0, hg, r0, hv, hk⟩)
def c_cmp_isNaN_int (C : Ctx) (p_x : Int) (K : Bool → Heap → Prop) (H : Heap) : Prop :=
 Spec Tryz.prog C 107 [.int .i64 p_x] H (fun v H2 => ∃ (r0 : Bool), v = .bool r0 ∧ K r0 H2)
theorem c_cmp_isNaN_int.mono {C : Ctx} {p_x : Int} {K K2 : Bool → Heap → Prop} {H : Heap} (h : c_cmp_isNaN_int C p_x K H) (hk : ∀ r0 H2, K r0 H2 → K2 r0 H2) : c_cmp_isNaN_int C p_x K2 H :=
 Spec.mono h fun _ H2 ⟨r0, hv, h2⟩ => ⟨r0, hv, hk r0 H2 h2⟩
theorem c_cmp_isNaN_int.gh {C : Ctx} {p_x : Int} {K : Bool → Heap → Prop} {H : Heap} (h : c_cmp_isNaN_int C p_x (fun r0 H2 => ∃ H0, Gh C H2 H0 ∧ K r0 H0) H) : c_cmp_isNaN_int C p_x K H :=
 Spec.gh (Spec.mono h fun _ H2 ⟨r0, hv, H0, hg, hk⟩ => ⟨H0, hg, r0, hv, hk⟩)
def c_strings_asciiSet_contains (C : Ctx) (p_as : Option (Nat × Nat)) (p_c : Int) (K : Bool → Heap → Prop) (H : Heap) : Prop :=
 Spec Tryz.prog C 108 [pv p_as, .int .u8 p_c] H (fun v H2 => ∃ (r0 : Bool), v = .bool r0 ∧ K r0 H2)
theorem c_strings_asciiSet_contains.mono {C : Ctx} {p_as : Option (Nat × Nat)} {p_c : Int} {K K2 : Bool → Heap → Prop} {H : Heap} (h : c_strings_asciiSet_contains C p_as p_c K H) (hk : ∀ r0 H2, K r0 H2 → K2 r0 H2) : c_strings_asciiSet_contains C p_as p_c K2 H :=
 Spec.mono h fun _ H2 ⟨r0, hv, h2⟩ => ⟨r0, hv, hk r0 H2 h2⟩
theorem c_strings_asciiSet_contains.gh {C : Ctx} {p_as : Option (Nat × Nat)} {p_c : Int} {K : Bool → Heap → Prop} {H : Heap} (h : c_strings_asciiSet_contains C p_as p_c (fun r0 H2 => ∃ H0, Gh C H2 H0 ∧ K r0 H0) H) : c_strings_asciiSet_contains C p_as p_c K H :=
 Spec.gh (Spec.mono h fun _ H2 ⟨r0, hv, H0, hg, hk⟩ => ⟨H0, hg, r0, hv, hk⟩)
def c_internal_stringslite_IndexByte (C : Ctx) (p_s : Str) (p_c : Int) (K : Int → Heap → Prop) (H : Heap) : Prop :=
 Spec Tryz.prog C 112 [sv p_s, .int .u8 p_c] H (fun v H2 => ∃ (r0 : Int), v = .int .i64 r0 ∧ K r0 H2)
theorem c_internal_stringslite_IndexByte.mono {C : Ctx} {p_s : Str} {p_c : Int} {K K2 : Int → Heap → Prop} {H : Heap} (h : c_internal_stringslite_IndexByte C p_s p_c K H) (hk : ∀ r0 H2, K r0 H2 → K2 r0 H2) : c_internal_stringslite_IndexByte C p_s p_c K2 H :=
 Spec.mono h fun _ H2 ⟨r0, hv, h2⟩ => ⟨r0, hv, hk r0 H2 h2⟩
theorem c_internal_stringslite_IndexByte.gh {C : Ctx} {p_s : Str} {p_c : Int} {K : Int → Heap → Prop} {H : Heap} (h : c_internal_stringslite_IndexByte C p_s p_c (fun r0 H2 => ∃ H0, Gh C H2 H0 ∧ K r0 H0) H) : c_internal_stringslite_IndexByte C p_s p_c K H :=
 Spec.gh (Spec.mono h fun _ H2 ⟨r0, hv, H0, hg, hk⟩ => ⟨H0, hg, r0, hv, hk⟩)
def c_internal_bytealg_Cutover (C : Ctx) (p_n : Int) (K : Int → Heap → Prop) (H : Heap) : Prop :=
 Spec Tryz.prog C 114 [.int .i64 p_n] H (fun v H2 => ∃ (r0 : Int), v = .int .i64 r0 ∧ K r0 H2)
theorem c_internal_bytealg_Cutover.mono {C : Ctx} {p_n : Int} {K K2 : Int → Heap → Prop} {H : Heap} (h : c_internal_bytealg_Cutover C p_n K H) (hk : ∀ r0 H2, K r0 H2 → K2 r0 H2) : c_internal_bytealg_Cutover C p_n K2 H :=
 Spec.mono h fun _ H2 ⟨r0, hv, h2⟩ => ⟨r0, hv, hk r0 H2 h2⟩
theorem c_internal_bytealg_Cutover.gh {C : Ctx} {p_n : Int} {K : Int → Heap → Prop} {H : Heap} (h : c_internal_bytealg_Cutover C p_n (fun r0 H2 => ∃ H0, Gh C H2 H0 ∧ K r0 H0) H) : c_internal_bytealg_Cutover C p_n K H :=
 Spec.gh (Spec.mono h fun _ H2 ⟨r0, hv, H0, hg, hk⟩ => ⟨H0, hg, r0, hv, hk⟩)
def c_internal_bytealg_IndexRabinKarp_string (C : Ctx) (p_s : Str) (p_sep : Str) (K : Int → Heap → Prop) (H : Heap) : Prop :=
 Spec Tryz.prog C 115 [sv p_s, sv p_sep] H (fun v H2 => ∃ (r0 : Int), v = .int .i64 r0 ∧ K r0 H2)
theorem c_internal_bytealg_IndexRabinKarp_string.mono {C : Ctx} {p_s : Str} {p_sep : Str} {K K2 : Int → Heap → Prop} {H : Heap} (h : c_internal_bytealg_IndexRabinKarp_string C p_s p_sep K H) (hk : ∀ r0 H2, K r0 H2 → K2 r0 H2) : c_internal_bytealg_IndexRabinKarp_string C p_s p_sep K2 H :=
 Spec.mono h fun _ H2 ⟨r0, hv, h2⟩ => ⟨r0, hv, hk r0 H2 h2⟩
theorem c_internal_bytealg_IndexRabinKarp_string.gh {C : Ctx} {p_s : Str} {p_sep : Str} {K : Int → Heap → Prop} {H : Heap} (h : c_internal_bytealg_IndexRabinKarp_string C p_s p_sep (fun r0 H2 => ∃ H0, Gh C H2 H0 ∧ K r0 H0) H) : c_internal_bytealg_IndexRabinKarp_string C p_s p_sep K H :=
 Spec.gh (Spec.mono h fun _ H2 ⟨r0, hv, H0, hg, hk⟩ => ⟨H0, hg, r0, hv, hk⟩)
def c_slices_swapRangeCmpFunc_zset_Entry (C : Ctx) (p_data : Sl) (p_a : Int) (p_b : Int) (p_n : Int) (p_cmp : Value) (K : Heap → Prop) (H : Heap) : Prop :=
 Spec Tryz.prog C 117 [slv p_data, .int .i64 p_a, .int .i64 p_b, .int .i64 p_n, p_cmp] H (fun v H2 => v = .tuple #[] ∧ K H2)
theorem c_slices_swapRangeCmpFunc_zset_Entry.mono {C : Ctx} {p_data : Sl} {p_a : Int} {p_b : Int} {p_n : Int} {p_cmp : Value} {K K2 : Heap → Prop} {H : Heap} (h : c_slices_swapRangeCmpFunc_zset_Entry C p_data p_a p_b p_n p_cmp K H) (hk : ∀  H2, K  H2 → K2  H2) : c_slices_swapRangeCmpFunc_zset_Entry C p_data p_a p_b p_n p_cmp K2 H :=
 Spec.mono h fun _ H2 ⟨hv, h2⟩ => ⟨hv, hk H2 h2⟩
theorem c_slices_swapRangeCmpFunc_zset_Entry.gh {C : Ctx} {p_data : Sl} {p_a : Int} {p_b : Int} {p_n : Int} {p_cmp : Value} {K : Heap → Prop} {H : Heap} (h : c_slices_swapRangeCmpFunc_zset_Entry C p_data p_a p_b p_n p_cmp (fun  H2 => ∃ H0, Gh C H2 H0 ∧ K  H0) H) : c_slices_swapRangeCmpFunc_zset_Entry C p_data p_a p_b p_n p_cmp K H :=
 Spec.gh (Spec.mono h fun _ H2 ⟨hv, H0, hg, hk⟩ => ⟨H0, hg, hv, hk⟩)
def c_ref02_Number (C : Ctx) (p_s : Str) (K : Bool → Heap → Prop) (H : Heap) : Prop :=
 Spec Tryz.prog C 118 [sv p_s] H (fun v H2 => ∃ (r0 : Bool), v = .bool r0 ∧ K r0 H2)
theorem c_ref02_Number.mono {C : Ctx} {p_s : Str} {K K2 : Bool → Heap → Prop} {H : Heap} (h : c_ref02_Number C p_s K H) (hk : ∀ r0 H2, K r0 H2 → K2 r0 H2) : c_ref02_Number C p_s K2 H :=
 Spec.mono h fun _ H2 ⟨r0, hv, h2⟩ => ⟨r0, hv, hk r0 H2 h2⟩
theorem c_ref02_Number.gh {C : Ctx} {p_s : Str} {K : Bool → Heap → Prop} {H : Heap} (h : c_ref02_Number C p_s (fun r0 H2 => ∃ H0, Gh C H2 H0 ∧ K r0 H0) H) : c_ref02_Number C p_s K H :=
 Spec.gh (Spec.mono h fun _ H2 ⟨r0, hv, H0, hg, hk⟩ => ⟨H0, hg, r0, hv, hk⟩)
def c_ref02_Names (C : Ctx) (p_s : Str) (K : Bool → Heap → Prop) (H : Heap) : Prop :=
 Spec Tryz.prog C 119 [sv p_s] H (fun v H2 => ∃ (r0 : Bool), v = .bool r0 ∧ K r0 H2)
theorem c_ref02_Names.mono {C : Ctx} {p_s : Str} {K K2 : Bool → Heap → Prop} {H : Heap} (h : c_ref02_Names C p_s K H) (hk : ∀ r0 H2, K r0 H2 → K2 r0 H2) : c_ref02_Names C p_s K2 H :=
 Spec.mono h fun _ H2 ⟨r0, hv, h2⟩ => ⟨r0, hv, hk r0 H2 h2⟩
theorem c_ref02_Names.gh {C : Ctx} {p_s : Str} {K : Bool → Heap → Prop} {H : Heap} (h : c_ref02_Names C p_s (fun r0 H2 => ∃ H0, Gh C H2 H0 ∧ K r0 H0) H) : c_ref02_Names C p_s K H :=
 Spec.gh (Spec.mono h fun _ H2 ⟨r0, hv, H0, hg, hk⟩ => ⟨H0, hg, r0, hv, hk⟩)
def c_ref02_Digits (C : Ctx) (p_s : Str) (K : Int → Heap → Prop) (H : Heap) : Prop :=
 Spec Tryz.prog C 120 [sv p_s] H (fun v H2 => ∃ (r0 : Int), v = .int .i64 r0 ∧ K r0 H2)
theorem c_ref02_Digits.mono {C : Ctx} {p_s : Str} {K K2 : Int → Heap → Prop} {H : Heap} (h : c_ref02_Digits C p_s K H) (hk : ∀ r0 H2, K r0 H2 → K2 r0 H2) : c_ref02_Digits C p_s K2 H :=
 Spec.mono h fun _ H2 ⟨r0, hv, h2⟩ => ⟨r0, hv, hk r0 H2 h2⟩
theorem c_ref02_Digits.gh {C : Ctx} {p_s : Str} {K : Int → Heap → Prop} {H : Heap} (h : c_ref02_Digits C p_s (fun r0 H2 => ∃ H0, Gh C H2 H0 ∧ K r0 H0) H) : c_ref02_Digits C p_s K H :=
 Spec.gh (Spec.mono h fun _ H2 ⟨r0, hv, H0, hg, hk⟩ => ⟨H0, hg, r0, hv, hk⟩)
def c_ref02_Name (C : Ctx) (p_s : Str) (K : Bool → Heap → Prop) (H : Heap) : Prop :=
 Spec Tryz.prog C 126 [sv p_s] H (fun v H2 => ∃ (r0 : Bool), v = .bool r0 ∧ K r0 H2)
theorem c_ref02_Name.mono {C : Ctx} {p_s : Str} {K K2 : Bool → Heap → Prop} {H : Heap} (h : c_ref02_Name C p_s K H) (hk : ∀ r0 H2, K r0 H2 → K2 r0 H2) : c_ref02_Name C p_s K2 H :=
 Spec.mono h fun _ H2 ⟨r0, hv, h2⟩ => ⟨r0, hv, hk r0 H2 h2⟩
theorem c_ref02_Name.gh {C : Ctx} {p_s : Str} {K : Bool → Heap → Prop} {H : Heap} (h : c_ref02_Name C p_s (fun r0 H2 => ∃ H0, Gh C H2 H0 ∧ K r0 H0) H) : c_ref02_Name C p_s K H :=
 Spec.gh (Spec.mono h fun _ H2 ⟨r0, hv, H0, hg, hk⟩ => ⟨H0, hg, r0, hv, hk⟩)
def c_ref02_letter (C : Ctx) (p_c : Int) (K : Bool → Heap → Prop) (H : Heap) : Prop :=
 Spec Tryz.prog C 129 [.int .u8 p_c] H (fun v H2 => ∃ (r0 : Bool), v = .bool r0 ∧ K r0 H2)
theorem c_ref02_letter.mono {C : Ctx} {p_c : Int} {K K2 : Bool → Heap → Prop} {H : Heap} (h : c_ref02_letter C p_c K H) (hk : ∀ r0 H2, K r0 H2 → K2 r0 H2) : c_ref02_letter C p_c K2 H :=
 Spec.mono h fun _ H2 ⟨r0, hv, h2⟩ => ⟨r0, hv, hk r0 H2 h2⟩
theorem c_ref02_letter.gh {C : Ctx} {p_c : Int} {K : Bool → Heap → Prop} {H : Heap} (h : c_ref02_letter C p_c (fun r0 H2 => ∃ H0, Gh C H2 H0 ∧ K r0 H0) H) : c_ref02_letter C p_c K H :=
 Spec.gh (Spec.mono h fun _ H2 ⟨r0, hv, H0, hg, hk⟩ => ⟨H0, hg, r0, hv, hk⟩)
def sh_law16_ZsetAdds (C : Ctx) (p_l : Sl) (p_m : Sl) (K : Bool → Heap → Prop) (H : Heap) : Prop :=
 c_law16_large C p_l (fun r1 H2 =>
 jn (α := Bool) (fun b3 H9 =>
 ift b3
 (c_law16_awake C (fun r11 H12 =>
 K r11 H12) H9)
 (c_law16_given C p_l (fun r13 H14 =>
 c_law16_given C p_m (fun r15 H16 =>
 c_zset_Add C r13 r15 (fun r17 r18 H19 =>
 c_ref16_Add C p_l p_m (fun r20 r21 H22 =>
 c_law16_like C r17 r18 r20 r21 (fun r23 H24 =>
 ift (!r23)
 (K false H24)
 (c_zset_Less C r13 r15 (fun r26 r27 H28 =>
 c_ref16_Less C p_l p_m (fun r29 r30 H31 =>
 c_law16_like C r26 r27 r29 r30 (fun r32 H33 =>
 jn (α := Bool) (fun b34 H42 =>
 jn (α := Bool) (fun b43 H51 =>
 jn (α := Bool) (fun b52 H58 =>
 K b52 H58)
 (fun J53 => ift b43
 (c_law16_awake C (fun r56 H57 =>
 J53 r56 H57) H51)
 (J53 false H51)))
 (fun J44 => ift b34
 (c_law16_back C r15 (fun r47 H48 =>
 c_ref16_Same C r47 p_m (fun r49 H50 =>
 J44 r49 H50) H48) H42)
 (J44 false H42)))
 (fun J35 => ift r32
 (c_law16_back C r13 (fun r38 H39 =>
 c_ref16_Same C r38 p_l (fun r40 H41 =>
 J35 r40 H41) H39) H33)
 (J35 false H33))) H31) H28) H24)) H22) H19) H16) H14) H9))
 (fun J4 => ift r1
 (J4 true H2)
 (c_law16_large C p_m (fun r7 H8 =>
 J4 r7 H8) H2))) H
theorem ad_law16_ZsetAdds (C : Ctx) (p_l : Sl) (p_m : Sl) (K : Bool → Heap → Prop) (H : Heap) (h : sh_law16_ZsetAdds C p_l p_m K H) : c_law16_ZsetAdds C p_l p_m K H := by
 refine Spec.enter Tryz.func3 rfl Tryz.ntmps3 rfl (GC.sub [(0, slv p_l), (1, slv p_m)] ⟨rfl, rfl, trivial⟩ (Zo (Za (GL.nil (GC.seq (Zo (Zm (Zc h ok_law16_large ?_))))))))
 rintro _ H2 ⟨r1, rfl, h⟩
 refine Zm ?_
 obtain ⟨J4, h, hR5⟩ := h
 refine GL.cut (α := Bool) 3 J4 (fun b3 => [(16, .bool b3), (0, slv p_l), (1, slv p_m)]) ?_ ?_
 rcases Bool.eq_false_or_eq_true r1 with hc6 | hc6
 replace h := h.1 hc6
 refine Zk hc6 (Zk hc6 (Zt hc6 ?_))
 exact GL.jump (fun _ _ h => h) true h ⟨rfl, rfl, rfl, trivial⟩
 replace h := h.2 hc6
 refine Zu hc6 (OV.move rfl) (GL.call h ⟨_, _, rfl, rfl, hc6⟩ rfl ok_law16_large (vs := [slv p_m]) rfl ?_)
 rintro _ H8 ⟨r7, rfl, h⟩
 refine Zn hc6 ?_
 exact GL.jump (fun _ _ h => h) r7 h ⟨rfl, rfl, rfl, trivial⟩
 intro b3 H9 h
 replace h := hR5 b3 H9 h
 refine GL.nil ?_
 refine Zd (fun hc10 => ?_) fun hc10 => ?_
 replace h := h.1 hc10
 refine Zo (Zc h ok_law16_awake ?_)
 rintro _ H12 ⟨r11, rfl, h⟩
 refine Za (GL.nil ?_)
 exact GC.ret (fun _ _ hf hs => post_tmp1 rfl rfl hf hs ⟨r11, rfl, h⟩)
 replace h := h.2 hc10
 refine GC.skip (Zo (Zm (Zc h ok_law16_given ?_)))
 rintro _ H14 ⟨r13, rfl, h⟩
 refine Zm (Zc h ok_law16_given ?_)
 rintro _ H16 ⟨r15, rfl, h⟩
 refine Za (Za (GL.nil (Zo (Zm (Zm (Zc h ok_zset_Add ?_))))))
 rintro _ H19 ⟨r17, r18, rfl, h⟩
 refine Zm (Zv (OV.extract (v := slv r17) rfl rfl) (Zv (OV.extract (v := .int .i64 r18) rfl rfl) (Za (Za (GL.nil (Zo (Zm (Zm (Zc h ok_ref16_Add ?_)))))))))
 rintro _ H22 ⟨r20, r21, rfl, h⟩
 refine Zm (Zv (OV.extract (v := slv r20) rfl rfl) (Zv (OV.extract (v := .int .i64 r21) rfl rfl) (Za (Za (GL.nil (GC.seq (Zo (Zm (Zm (Zm (Zm ?_)))))))))))
 refine Zc h ok_law16_like ?_
 rintro _ H24 ⟨r23, rfl, h⟩
 refine Zv (OV.not rfl) (GL.nil ?_)
 refine Zd (fun hc25 => ?_) fun hc25 => ?_
 replace h := h.1 hc25
 refine Zo (Za (GL.nil ?_))
 exact GC.ret (fun _ _ hf hs => post_tmp1 rfl rfl hf hs ⟨false, rfl, h⟩)
 replace h := h.2 hc25
 refine GC.skip (Zo (Zm (Zm (Zc h ok_zset_Less ?_))))
 rintro _ H28 ⟨r26, r27, rfl, h⟩
 refine Zm (Zv (OV.extract (v := slv r26) rfl rfl) (Zv (OV.extract (v := .int .i64 r27) rfl rfl) (Za (Za (GL.nil (Zo (Zm (Zm (Zc h ok_ref16_Less ?_)))))))))
 rintro _ H31 ⟨r29, r30, rfl, h⟩
 refine Zm (Zv (OV.extract (v := slv r29) rfl rfl) (Zv (OV.extract (v := .int .i64 r30) rfl rfl) (Za (Za (GL.nil (Zo (Zm (Zm (Zm (Zm (Zc h ok_law16_like ?_)))))))))))
 rintro _ H33 ⟨r32, rfl, h⟩
 refine Zm ?_
 obtain ⟨J35, h, hR36⟩ := h
 refine GL.cut (α := Bool) 5 J35 (fun b34 => [(62, .bool b34), (1, slv p_m), (6, slv r15)]) ?_ ?_
 rcases Bool.eq_false_or_eq_true r32 with hc37 | hc37
 replace h := h.1 hc37
 refine Zu hc37 (OV.move rfl) (GL.call h ⟨_, _, rfl, rfl, hc37⟩ rfl ok_law16_back (vs := [slv r13]) rfl ?_)
 rintro _ H39 ⟨r38, rfl, h⟩
 refine Zu hc37 (OV.move rfl) (GL.call h ⟨_, _, rfl, rfl, hc37⟩ rfl ok_ref16_Same (vs := [slv r38, slv p_l]) rfl ?_)
 rintro _ H41 ⟨r40, rfl, h⟩
 refine Zt hc37 ?_
 exact GL.jump (fun _ _ h => h) r40 h ⟨rfl, rfl, rfl, trivial⟩
 replace h := h.2 hc37
 refine Zk hc37 (Zk hc37 (Zk hc37 (Zk hc37 (Zn hc37 ?_))))
 exact GL.jump (fun _ _ h => h) false h ⟨rfl, rfl, rfl, trivial⟩
 intro b34 H42 h
 replace h := hR36 b34 H42 h
 refine Zm ?_
 obtain ⟨J44, h, hR45⟩ := h
 refine GL.cut (α := Bool) 5 J44 (fun b43 => [(68, .bool b43)]) ?_ ?_
 rcases Bool.eq_false_or_eq_true b34 with hc46 | hc46
 replace h := h.1 hc46
 refine Zu hc46 (OV.move rfl) (GL.call h ⟨_, _, rfl, rfl, hc46⟩ rfl ok_law16_back (vs := [slv r15]) rfl ?_)
 rintro _ H48 ⟨r47, rfl, h⟩
 refine Zu hc46 (OV.move rfl) (GL.call h ⟨_, _, rfl, rfl, hc46⟩ rfl ok_ref16_Same (vs := [slv r47, slv p_m]) rfl ?_)
 rintro _ H50 ⟨r49, rfl, h⟩
 refine Zt hc46 ?_
 exact GL.jump (fun _ _ h => h) r49 h ⟨rfl, trivial⟩
 replace h := h.2 hc46
 refine Zk hc46 (Zk hc46 (Zk hc46 (Zk hc46 (Zn hc46 ?_))))
 exact GL.jump (fun _ _ h => h) false h ⟨rfl, trivial⟩
 intro b43 H51 h
 replace h := hR45 b43 H51 h
 refine Zm ?_
 obtain ⟨J53, h, hR54⟩ := h
 refine GL.cut (α := Bool) 2 J53 (fun b52 => [(71, .bool b52)]) ?_ ?_
 rcases Bool.eq_false_or_eq_true b43 with hc55 | hc55
 replace h := h.1 hc55
 refine GL.call h ⟨_, _, rfl, rfl, hc55⟩ rfl ok_law16_awake (vs := []) rfl ?_
 rintro _ H57 ⟨r56, rfl, h⟩
 refine Zt hc55 ?_
 exact GL.jump (fun _ _ h => h) r56 h ⟨rfl, trivial⟩
 replace h := h.2 hc55
 refine Zk hc55 (Zn hc55 ?_)
 exact GL.jump (fun _ _ h => h) false h ⟨rfl, trivial⟩
 intro b52 H58 h
 replace h := hR54 b52 H58 h
 refine Za (GL.nil ?_)
 exact GC.ret (fun _ _ hf hs => post_tmp1 rfl rfl hf hs ⟨b52, rfl, h⟩)
def sh_law16_large (C : Ctx) (p_l : Sl) (K : Bool → Heap → Prop) (H : Heap) : Prop :=
 lp (α := Int × Int) ((Sl.len p_l : Int), 0) H (fun x1 J2 H3 =>
 ift ((decide ((x1.2 : Int) < (Sl.len p_l : Int))) && (decide ((x1.1 : Int) < 500)))
 (ixa p_l x1.2 fun p6 =>
 ldL H3 ((p6.1, p6.2 + (x1.2 : Int).toNat * 2).1, (p6.1, p6.2 + (x1.2 : Int).toNat * 2).2 + 0) fun x11 =>
 lp (α := Int × Int) ((w .i64 (x1.1 + (Sl.len x11 : Int))), 0) H3 (fun x13 J14 H15 =>
 ixa p_l x1.2 fun p16 =>
 ldL H15 ((p16.1, p16.2 + (x1.2 : Int).toNat * 2).1, (p16.1, p16.2 + (x1.2 : Int).toNat * 2).2 + 0) fun x21 =>
 ift ((decide ((x13.2 : Int) < (Sl.len x21 : Int))) && (decide ((x13.1 : Int) < 500)))
 (ixa p_l x1.2 fun p25 =>
 ldL H15 ((p25.1, p25.2 + (x1.2 : Int).toNat * 2).1, (p25.1, p25.2 + (x1.2 : Int).toNat * 2).2 + 0) fun x30 =>
 ixa x30 x13.2 fun p32 =>
 ldT H15 T_api_Value.c (p32.1, p32.2 + (x13.2 : Int).toNat * 4) fun x37 =>
 c_law16_weight C x37 500 (fun r39 H40 =>
 J14 ((w .i64 (x13.1 + r39)), (w .i64 (x13.2 + 1))) H40) H15)
 (J2 (x13.1, (w .i64 (x1.2 + 1))) H15)))
 (K (decide ((x1.1 : Int) ≥ 500)) H3))
theorem ad_law16_large (C : Ctx) (p_l : Sl) (K : Bool → Heap → Prop) (H : Heap) (h : sh_law16_large C p_l K H) : c_law16_large C p_l K H := by
 refine Spec.enter Tryz.func5 rfl Tryz.ntmps5 rfl (GC.sub [(0, slv p_l)] ⟨rfl, trivial⟩ (Zo (Za (GL.nil (Zo (Zm (Zq (Za (GL.nil (GC.seq (Zo ?_)))))))))))
 refine Za (GL.nil (GC.block (GC.loop (α := Int × Int) h (fun x1 => [(3, .int .i64 x1.1), (4, .int .i64 x1.2), (0, slv p_l)]) ⟨rfl, rfl, rfl, trivial⟩ ?_)))
 intro x1 H3 J2 h
 refine GC.seq (Zo (Zm (Zm (Zq (Zi (.bool (decide ((x1.2 : Int) < (Sl.len p_l : Int)))) (Zm ?_))))))
 refine GL.cut0 3 [(15, .bool ((decide ((x1.2 : Int) < (Sl.len p_l : Int))) && (decide ((x1.1 : Int) < 500)))), (0, slv p_l), (3, .int .i64 x1.1), (4, .int .i64 x1.2)] ?_ ?_
 rcases Zb (decide ((x1.2 : Int) < (Sl.len p_l : Int))) with hc4 | hc4
 refine Zu hc4 (OV.move rfl) (Zu hc4 (OV.ibin (v := .bool (decide ((x1.1 : Int) < 500))) rfl rfl rfl) (Zt hc4 ?_))
 exact GL.jump0 (fun _ _ h => h) () rfl ⟨(by rw [hc4]; rfl), rfl, rfl, rfl, trivial⟩
 refine Zk hc4 (Zk hc4 (Zn hc4 ?_))
 exact GL.jump0 (fun _ _ h => h) () rfl ⟨(by rw [hc4]; rfl), rfl, rfl, rfl, trivial⟩
 refine GL.nil ?_
 refine Zd (fun hc5 => ?_) fun hc5 => ?_
 replace h := h.1 hc5
 refine GC.skip (GC.seq (GC.block (Zo (Zm (Zm (Zm ?_))))))
 obtain ⟨p6, ha7, hb8, hc9, hd10, h⟩ := h
 refine Zx ha7 hb8 hc9 hd10 (Zf ?_)
 obtain ⟨x11, hr12, h⟩ := h
 refine Zl hr12 (Zq (Zi (.int .i64 (w .i64 (x1.1 + (Sl.len x11 : Int)))) (Za (GL.nil (Zo (Za (GL.nil (GC.block (GC.loop (α := Int × Int) h (fun x13 => [(3, .int .i64 x13.1), (5, .int .i64 x13.2), (0, slv p_l), (4, .int .i64 x1.2)]) ⟨rfl, rfl, rfl, rfl, trivial⟩ ?_)))))))))
 intro x13 H15 J14 h
 refine GC.seq (Zo (Zm (Zm (Zm ?_))))
 obtain ⟨p16, ha17, hb18, hc19, hd20, h⟩ := h
 refine Zx ha17 hb18 hc19 hd20 (Zf ?_)
 obtain ⟨x21, hr22, h⟩ := h
 refine Zl hr22 (Zq (Zi (.bool (decide ((x13.2 : Int) < (Sl.len x21 : Int)))) (Zm ?_)))
 refine GL.cut0 3 [(37, .bool ((decide ((x13.2 : Int) < (Sl.len x21 : Int))) && (decide ((x13.1 : Int) < 500)))), (0, slv p_l), (3, .int .i64 x13.1), (4, .int .i64 x1.2), (5, .int .i64 x13.2)] ?_ ?_
 rcases Zb (decide ((x13.2 : Int) < (Sl.len x21 : Int))) with hc23 | hc23
 refine Zu hc23 (OV.move rfl) (Zu hc23 (OV.ibin (v := .bool (decide ((x13.1 : Int) < 500))) rfl rfl rfl) (Zt hc23 ?_))
 exact GL.jump0 (fun _ _ h => h) () rfl ⟨(by rw [hc23]; rfl), rfl, rfl, rfl, rfl, trivial⟩
 refine Zk hc23 (Zk hc23 (Zn hc23 ?_))
 exact GL.jump0 (fun _ _ h => h) () rfl ⟨(by rw [hc23]; rfl), rfl, rfl, rfl, rfl, trivial⟩
 refine GL.nil ?_
 refine Zd (fun hc24 => ?_) fun hc24 => ?_
 replace h := h.1 hc24
 refine GC.skip (GC.seq (GC.block (GC.region (Zm (Zm (Zm ?_))))))
 obtain ⟨p25, ha26, hb27, hc28, hd29, h⟩ := h
 refine Zx ha26 hb27 hc28 hd29 (Zf ?_)
 obtain ⟨x30, hr31, h⟩ := h
 refine Zl hr31 (Zm ?_)
 obtain ⟨p32, ha33, hb34, hc35, hd36, h⟩ := h
 refine Zx ha33 hb34 hc35 hd36 ?_
 obtain ⟨x37, hr38, h⟩ := h
 refine Zv (OV.loadT rfl rfl rfl hr38) (Zc h ok_law16_weight ?_)
 rintro _ H40 ⟨r39, rfl, h⟩
 refine Zi (.int .i64 (w .i64 (x13.1 + r39))) (Za (GL.nil_to (fun _ _ h => h) (GC.region (Zm (Zi (.int .i64 (w .i64 (x13.2 + 1))) (Za ?_))))))
 exact GL.jump (fun _ _ h => h) ((w .i64 (x13.1 + r39)), (w .i64 (x13.2 + 1))) h ⟨rfl, rfl, rfl, rfl, trivial⟩
 replace h := h.2 hc24
 refine GC.exit_to (fun _ _ h => h) (GC.region (Zm (Zi (.int .i64 (w .i64 (x1.2 + 1))) (Za ?_))))
 exact GL.jump (fun _ _ h => h) (x13.1, (w .i64 (x1.2 + 1))) h ⟨rfl, rfl, rfl, trivial⟩
 replace h := h.2 hc5
 refine GC.exit_to (fun _ _ h => h) (Zo (Zm (Zi (.bool (decide ((x1.1 : Int) ≥ 500))) (Za (GL.nil ?_)))))
 exact GC.ret (fun _ _ hf hs => post_tmp1 rfl rfl hf hs ⟨(decide ((x1.1 : Int) ≥ 500)), rfl, h⟩)
def sh_law16_awake (C : Ctx) (K : Bool → Heap → Prop) (H : Heap) : Prop :=
 nw ((T_api_Value.c (⟨2, 1, [], Sl.nil⟩ : T_api_Value)) ++ []) (fun b1 H2 =>
 nw ((T_api_Value.c (⟨2, 2, [], Sl.nil⟩ : T_api_Value)) ++ []) (fun b3 H4 =>
 nw ((T_zset_Entry.c (⟨(Sl.of (some (b3, 0)) 1 1), 1⟩ : T_zset_Entry)) ++ (T_zset_Entry.c (⟨(Sl.of (some (b1, 0)) 1 1), 3⟩ : T_zset_Entry)) ++ (T_zset_Entry.c (⟨(Sl.of (some (b3, 0)) 1 1), (-1)⟩ : T_zset_Entry)) ++ (T_zset_Entry.c (⟨(Sl.of (some (b1, 0)) 1 1), (-1)⟩ : T_zset_Entry)) ++ []) (fun b5 H6 =>
 c_zset_Clean C (Sl.of (some (b5, 0)) 4 4) (fun r7 r8 H9 =>
 nw ((T_zset_Entry.c (⟨(Sl.of (some (b1, 0)) 1 1), (-3)⟩ : T_zset_Entry)) ++ (T_zset_Entry.c (⟨(Sl.of (some (b3, 0)) 1 1), 1⟩ : T_zset_Entry)) ++ []) (fun b10 H11 =>
 c_zset_Add C r7 (Sl.of (some (b10, 0)) 2 2) (fun r12 r13 H14 =>
 c_zset_Distinct C r12 (fun r15 r16 H17 =>
 jn (α := Bool) (fun b19 H30 =>
 jn (α := Bool) (fun b33 H44 =>
 jn (α := Bool) (fun b47 H58 =>
 jn (α := Bool) (fun b59 H72 =>
 K b59 H72)
 (fun J60 => ift b47
 (ixa r15 0 fun p63 =>
 ldL H58 ((p63.1, p63.2 + (0 : Int).toNat * 2).1, (p63.1, p63.2 + (0 : Int).toNat * 2).2 + 0) fun x68 =>
 c_value_CmpRows C x68 (Sl.of (some (b3, 0)) 1 1) (fun r70 H71 =>
 J60 ((r70 : Int) == 0) H71) H58)
 (J60 false H58)))
 (fun J48 => ift ((b33 && ((r16 : Int) == 0)) && (((Sl.len r15 : Int) : Int) == 1))
 (ixa r15 0 fun p51 =>
 ldI H44 .i64 ((p51.1, p51.2 + (0 : Int).toNat * 2).1, (p51.1, p51.2 + (0 : Int).toNat * 2).2 + 1) fun x56 =>
 J48 ((x56 : Int) == 1) H44)
 (J48 false H44)))
 (fun J34 => ift ((b19 && ((r13 : Int) == 0)) && (((Sl.len r12 : Int) : Int) == 2))
 (ixa r12 0 fun p37 =>
 ldI H30 .i64 ((p37.1, p37.2 + (0 : Int).toNat * 2).1, (p37.1, p37.2 + (0 : Int).toNat * 2).2 + 1) fun x42 =>
 J34 ((x42 : Int) == (-1)) H30)
 (J34 false H30)))
 (fun J20 => ift (((r8 : Int) == 0) && (((Sl.len r7 : Int) : Int) == 1))
 (ixa r7 0 fun p23 =>
 ldI H17 .i64 ((p23.1, p23.2 + (0 : Int).toNat * 2).1, (p23.1, p23.2 + (0 : Int).toNat * 2).2 + 1) fun x28 =>
 J20 ((x28 : Int) == 2) H17)
 (J20 false H17))) H14) H11) H9) H6) H4) H2) H
theorem ad_law16_awake (C : Ctx) (K : Bool → Heap → Prop) (H : Heap) (h : sh_law16_awake C  K H) : c_law16_awake C  K H := by
 refine Spec.enter Tryz.func6 rfl Tryz.ntmps6 rfl (GC.sub [] trivial (Zo (Za (GL.nil (Zo (Zv (OV.build (vs := [(0, .int .u8 2), (1, .int .i64 1)]) (v := .agg (T_api_Value.c (⟨2, 1, [], Sl.nil⟩ : T_api_Value)).toArray) rfl (fun _ => by kernel_rfl)) (GL.buildSlice (cs := (T_api_Value.c (⟨2, 1, [], Sl.nil⟩ : T_api_Value)) ++ []) h trivial rfl (vs := [(0, .agg (T_api_Value.c (⟨2, 1, [], Sl.nil⟩ : T_api_Value)).toArray)]) rfl ⟨39, fun _ => by kernel_rfl⟩ ?_)))))))
 intro b1 H2 h
 refine Zv (OV.build (vs := [(0, .int .u8 2), (1, .int .i64 2)]) (v := .agg (T_api_Value.c (⟨2, 2, [], Sl.nil⟩ : T_api_Value)).toArray) rfl (fun _ => by kernel_rfl)) (GL.buildSlice (cs := (T_api_Value.c (⟨2, 2, [], Sl.nil⟩ : T_api_Value)) ++ []) h trivial rfl (vs := [(0, .agg (T_api_Value.c (⟨2, 2, [], Sl.nil⟩ : T_api_Value)).toArray)]) rfl ⟨39, fun _ => by kernel_rfl⟩ ?_)
 intro b3 H4 h
 refine Za (Za (GL.nil (Zo (Zm (Zv (OV.build (vs := [(0, slv (Sl.of (some (b3, 0)) 1 1)), (1, .int .i64 1)]) (v := .agg (T_zset_Entry.c (⟨(Sl.of (some (b3, 0)) 1 1), 1⟩ : T_zset_Entry)).toArray) rfl (fun _ => by kernel_rfl)) (Zm (Zv (OV.build (vs := [(0, slv (Sl.of (some (b1, 0)) 1 1)), (1, .int .i64 3)]) (v := .agg (T_zset_Entry.c (⟨(Sl.of (some (b1, 0)) 1 1), 3⟩ : T_zset_Entry)).toArray) rfl (fun _ => by kernel_rfl)) (Zm (Zv (OV.build (vs := [(0, slv (Sl.of (some (b3, 0)) 1 1)), (1, .int .i64 (-1))]) (v := .agg (T_zset_Entry.c (⟨(Sl.of (some (b3, 0)) 1 1), (-1)⟩ : T_zset_Entry)).toArray) rfl (fun _ => by kernel_rfl)) (Zm (Zv (OV.build (vs := [(0, slv (Sl.of (some (b1, 0)) 1 1)), (1, .int .i64 (-1))]) (v := .agg (T_zset_Entry.c (⟨(Sl.of (some (b1, 0)) 1 1), (-1)⟩ : T_zset_Entry)).toArray) rfl (fun _ => by kernel_rfl)) ?_)))))))))))
 refine GL.buildSlice (cs := (T_zset_Entry.c (⟨(Sl.of (some (b3, 0)) 1 1), 1⟩ : T_zset_Entry)) ++ (T_zset_Entry.c (⟨(Sl.of (some (b1, 0)) 1 1), 3⟩ : T_zset_Entry)) ++ (T_zset_Entry.c (⟨(Sl.of (some (b3, 0)) 1 1), (-1)⟩ : T_zset_Entry)) ++ (T_zset_Entry.c (⟨(Sl.of (some (b1, 0)) 1 1), (-1)⟩ : T_zset_Entry)) ++ []) h trivial rfl (vs := [(0, .agg (T_zset_Entry.c (⟨(Sl.of (some (b3, 0)) 1 1), 1⟩ : T_zset_Entry)).toArray), (1, .agg (T_zset_Entry.c (⟨(Sl.of (some (b1, 0)) 1 1), 3⟩ : T_zset_Entry)).toArray), (2, .agg (T_zset_Entry.c (⟨(Sl.of (some (b3, 0)) 1 1), (-1)⟩ : T_zset_Entry)).toArray), (3, .agg (T_zset_Entry.c (⟨(Sl.of (some (b1, 0)) 1 1), (-1)⟩ : T_zset_Entry)).toArray)]) rfl ⟨43, fun _ => by kernel_rfl⟩ ?_
 intro b5 H6 h
 refine Zc h ok_zset_Clean ?_
 rintro _ H9 ⟨r7, r8, rfl, h⟩
 refine Zm (Zv (OV.extract (v := slv r7) rfl rfl) (Zv (OV.extract (v := .int .i64 r8) rfl rfl) (Za (Za (GL.nil (Zo (Zm (Zm (Zv (OV.build (vs := [(0, slv (Sl.of (some (b1, 0)) 1 1)), (1, .int .i64 (-3))]) (v := .agg (T_zset_Entry.c (⟨(Sl.of (some (b1, 0)) 1 1), (-3)⟩ : T_zset_Entry)).toArray) rfl (fun _ => by kernel_rfl)) (Zm (Zv (OV.build (vs := [(0, slv (Sl.of (some (b3, 0)) 1 1)), (1, .int .i64 1)]) (v := .agg (T_zset_Entry.c (⟨(Sl.of (some (b3, 0)) 1 1), 1⟩ : T_zset_Entry)).toArray) rfl (fun _ => by kernel_rfl)) ?_)))))))))))
 refine GL.buildSlice (cs := (T_zset_Entry.c (⟨(Sl.of (some (b1, 0)) 1 1), (-3)⟩ : T_zset_Entry)) ++ (T_zset_Entry.c (⟨(Sl.of (some (b3, 0)) 1 1), 1⟩ : T_zset_Entry)) ++ []) h trivial rfl (vs := [(0, .agg (T_zset_Entry.c (⟨(Sl.of (some (b1, 0)) 1 1), (-3)⟩ : T_zset_Entry)).toArray), (1, .agg (T_zset_Entry.c (⟨(Sl.of (some (b3, 0)) 1 1), 1⟩ : T_zset_Entry)).toArray)]) rfl ⟨43, fun _ => by kernel_rfl⟩ ?_
 intro b10 H11 h
 refine Zc h ok_zset_Add ?_
 rintro _ H14 ⟨r12, r13, rfl, h⟩
 refine Zm (Zv (OV.extract (v := slv r12) rfl rfl) (Zv (OV.extract (v := .int .i64 r13) rfl rfl) (Za (Za (GL.nil (Zo (Zm (Zc h ok_zset_Distinct ?_))))))))
 rintro _ H17 ⟨r15, r16, rfl, h⟩
 refine Zm (Zv (OV.extract (v := slv r15) rfl rfl) (Zv (OV.extract (v := .int .i64 r16) rfl rfl) (Za (Za (GL.nil (Zo (Zm (Zi (.bool ((r8 : Int) == 0)) (Zm ?_)))))))))
 refine GL.cut0 4 [(47, .bool (((r8 : Int) == 0) && (((Sl.len r7 : Int) : Int) == 1))), (2, slv (Sl.of (some (b3, 0)) 1 1)), (3, slv r7), (5, slv r12), (6, .int .i64 r13), (7, slv r15), (8, .int .i64 r16)] ?_ ?_
 rcases Zb ((r8 : Int) == 0) with hc18 | hc18
 refine Zu hc18 (OV.move rfl) (Zu hc18 (OV.lenSl rfl rfl) (Zu hc18 (OV.ibin (v := .bool (((Sl.len r7 : Int) : Int) == 1)) rfl rfl rfl) (Zt hc18 ?_)))
 exact GL.jump0 (fun _ _ h => h) () rfl ⟨(by rw [hc18]; rfl), rfl, rfl, rfl, rfl, rfl, rfl, trivial⟩
 refine Zk hc18 (Zk hc18 (Zk hc18 (Zn hc18 ?_)))
 exact GL.jump0 (fun _ _ h => h) () rfl ⟨(by rw [hc18]; rfl), rfl, rfl, rfl, rfl, rfl, rfl, trivial⟩
 refine Zm ?_
 obtain ⟨J20, h, hR21⟩ := h
 refine GL.cut (α := Bool) 6 J20 (fun b19 => [(54, .bool b19), (2, slv (Sl.of (some (b3, 0)) 1 1)), (5, slv r12), (6, .int .i64 r13), (7, slv r15), (8, .int .i64 r16)]) ?_ ?_
 rcases Zb (((r8 : Int) == 0) && (((Sl.len r7 : Int) : Int) == 1)) with hc22 | hc22
 replace h := h.1 hc22
 refine Zu hc22 (OV.move rfl) ?_
 obtain ⟨p23, ha24, hb25, hc26, hd27, h⟩ := h
 refine Zu hc22 (OV.indexAddr rfl rfl rfl rfl ha24 hb25 hc26 hd27) (Zu hc22 (OV.fieldAddr rfl rfl) ?_)
 obtain ⟨x28, hr29, h⟩ := h
 refine Zu hc22 (OV.load rfl rfl hr29) (Zu hc22 (OV.ibin (v := .bool ((x28 : Int) == 2)) rfl rfl rfl) (Zt hc22 ?_))
 exact GL.jump (fun _ _ h => h) ((x28 : Int) == 2) h ⟨rfl, rfl, rfl, rfl, rfl, rfl, trivial⟩
 replace h := h.2 hc22
 refine Zk hc22 (Zk hc22 (Zk hc22 (Zk hc22 (Zk hc22 (Zn hc22 ?_)))))
 exact GL.jump (fun _ _ h => h) false h ⟨rfl, rfl, rfl, rfl, rfl, rfl, trivial⟩
 intro b19 H30 h
 replace h := hR21 b19 H30 h
 refine Zm ?_
 refine GL.cut0 3 [(58, .bool (b19 && ((r13 : Int) == 0))), (2, slv (Sl.of (some (b3, 0)) 1 1)), (5, slv r12), (7, slv r15), (8, .int .i64 r16)] ?_ ?_
 rcases Bool.eq_false_or_eq_true b19 with hc31 | hc31
 refine Zu hc31 (OV.move rfl) (Zu hc31 (OV.ibin (v := .bool ((r13 : Int) == 0)) rfl rfl rfl) (Zt hc31 ?_))
 exact GL.jump0 (fun _ _ h => h) () rfl ⟨(by rw [hc31]; rfl), rfl, rfl, rfl, rfl, trivial⟩
 refine Zk hc31 (Zk hc31 (Zn hc31 ?_))
 exact GL.jump0 (fun _ _ h => h) () rfl ⟨(by rw [hc31]; rfl), rfl, rfl, rfl, rfl, trivial⟩
 refine Zm ?_
 refine GL.cut0 4 [(63, .bool ((b19 && ((r13 : Int) == 0)) && (((Sl.len r12 : Int) : Int) == 2))), (2, slv (Sl.of (some (b3, 0)) 1 1)), (5, slv r12), (7, slv r15), (8, .int .i64 r16)] ?_ ?_
 rcases Zb (b19 && ((r13 : Int) == 0)) with hc32 | hc32
 refine Zu hc32 (OV.move rfl) (Zu hc32 (OV.lenSl rfl rfl) (Zu hc32 (OV.ibin (v := .bool (((Sl.len r12 : Int) : Int) == 2)) rfl rfl rfl) (Zt hc32 ?_)))
 exact GL.jump0 (fun _ _ h => h) () rfl ⟨(by rw [hc32]; rfl), rfl, rfl, rfl, rfl, trivial⟩
 refine Zk hc32 (Zk hc32 (Zk hc32 (Zn hc32 ?_)))
 exact GL.jump0 (fun _ _ h => h) () rfl ⟨(by rw [hc32]; rfl), rfl, rfl, rfl, rfl, trivial⟩
 refine Zm ?_
 obtain ⟨J34, h, hR35⟩ := h
 refine GL.cut (α := Bool) 6 J34 (fun b33 => [(70, .bool b33), (2, slv (Sl.of (some (b3, 0)) 1 1)), (7, slv r15), (8, .int .i64 r16)]) ?_ ?_
 rcases Zb ((b19 && ((r13 : Int) == 0)) && (((Sl.len r12 : Int) : Int) == 2)) with hc36 | hc36
 replace h := h.1 hc36
 refine Zu hc36 (OV.move rfl) ?_
 obtain ⟨p37, ha38, hb39, hc40, hd41, h⟩ := h
 refine Zu hc36 (OV.indexAddr rfl rfl rfl rfl ha38 hb39 hc40 hd41) (Zu hc36 (OV.fieldAddr rfl rfl) ?_)
 obtain ⟨x42, hr43, h⟩ := h
 refine Zu hc36 (OV.load rfl rfl hr43) (Zu hc36 (OV.ibin (v := .bool ((x42 : Int) == (-1))) rfl rfl rfl) (Zt hc36 ?_))
 exact GL.jump (fun _ _ h => h) ((x42 : Int) == (-1)) h ⟨rfl, rfl, rfl, rfl, trivial⟩
 replace h := h.2 hc36
 refine Zk hc36 (Zk hc36 (Zk hc36 (Zk hc36 (Zk hc36 (Zn hc36 ?_)))))
 exact GL.jump (fun _ _ h => h) false h ⟨rfl, rfl, rfl, rfl, trivial⟩
 intro b33 H44 h
 replace h := hR35 b33 H44 h
 refine Zm ?_
 refine GL.cut0 3 [(74, .bool (b33 && ((r16 : Int) == 0))), (2, slv (Sl.of (some (b3, 0)) 1 1)), (7, slv r15)] ?_ ?_
 rcases Bool.eq_false_or_eq_true b33 with hc45 | hc45
 refine Zu hc45 (OV.move rfl) (Zu hc45 (OV.ibin (v := .bool ((r16 : Int) == 0)) rfl rfl rfl) (Zt hc45 ?_))
 exact GL.jump0 (fun _ _ h => h) () rfl ⟨(by rw [hc45]; rfl), rfl, rfl, trivial⟩
 refine Zk hc45 (Zk hc45 (Zn hc45 ?_))
 exact GL.jump0 (fun _ _ h => h) () rfl ⟨(by rw [hc45]; rfl), rfl, rfl, trivial⟩
 refine Zm ?_
 refine GL.cut0 4 [(79, .bool ((b33 && ((r16 : Int) == 0)) && (((Sl.len r15 : Int) : Int) == 1))), (2, slv (Sl.of (some (b3, 0)) 1 1)), (7, slv r15)] ?_ ?_
 rcases Zb (b33 && ((r16 : Int) == 0)) with hc46 | hc46
 refine Zu hc46 (OV.move rfl) (Zu hc46 (OV.lenSl rfl rfl) (Zu hc46 (OV.ibin (v := .bool (((Sl.len r15 : Int) : Int) == 1)) rfl rfl rfl) (Zt hc46 ?_)))
 exact GL.jump0 (fun _ _ h => h) () rfl ⟨(by rw [hc46]; rfl), rfl, rfl, trivial⟩
 refine Zk hc46 (Zk hc46 (Zk hc46 (Zn hc46 ?_)))
 exact GL.jump0 (fun _ _ h => h) () rfl ⟨(by rw [hc46]; rfl), rfl, rfl, trivial⟩
 refine Zm ?_
 obtain ⟨J48, h, hR49⟩ := h
 refine GL.cut (α := Bool) 6 J48 (fun b47 => [(86, .bool b47), (2, slv (Sl.of (some (b3, 0)) 1 1)), (7, slv r15)]) ?_ ?_
 rcases Zb ((b33 && ((r16 : Int) == 0)) && (((Sl.len r15 : Int) : Int) == 1)) with hc50 | hc50
 replace h := h.1 hc50
 refine Zu hc50 (OV.move rfl) ?_
 obtain ⟨p51, ha52, hb53, hc54, hd55, h⟩ := h
 refine Zu hc50 (OV.indexAddr rfl rfl rfl rfl ha52 hb53 hc54 hd55) (Zu hc50 (OV.fieldAddr rfl rfl) ?_)
 obtain ⟨x56, hr57, h⟩ := h
 refine Zu hc50 (OV.load rfl rfl hr57) (Zu hc50 (OV.ibin (v := .bool ((x56 : Int) == 1)) rfl rfl rfl) (Zt hc50 ?_))
 exact GL.jump (fun _ _ h => h) ((x56 : Int) == 1) h ⟨rfl, rfl, rfl, trivial⟩
 replace h := h.2 hc50
 refine Zk hc50 (Zk hc50 (Zk hc50 (Zk hc50 (Zk hc50 (Zn hc50 ?_)))))
 exact GL.jump (fun _ _ h => h) false h ⟨rfl, rfl, rfl, trivial⟩
 intro b47 H58 h
 replace h := hR49 b47 H58 h
 refine Zm ?_
 obtain ⟨J60, h, hR61⟩ := h
 refine GL.cut (α := Bool) 8 J60 (fun b59 => [(95, .bool b59)]) ?_ ?_
 rcases Bool.eq_false_or_eq_true b47 with hc62 | hc62
 replace h := h.1 hc62
 refine Zu hc62 (OV.move rfl) ?_
 obtain ⟨p63, ha64, hb65, hc66, hd67, h⟩ := h
 refine Zu hc62 (OV.indexAddr rfl rfl rfl rfl ha64 hb65 hc66 hd67) (Zu hc62 (OV.fieldAddr rfl rfl) ?_)
 obtain ⟨x68, hr69, h⟩ := h
 refine Zu hc62 (OV.load rfl rfl hr69) (Zu hc62 (OV.move rfl) (GL.call h ⟨_, _, rfl, rfl, hc62⟩ rfl ok_value_CmpRows (vs := [slv x68, slv (Sl.of (some (b3, 0)) 1 1)]) rfl ?_))
 rintro _ H71 ⟨r70, rfl, h⟩
 refine Zu hc62 (OV.ibin (v := .bool ((r70 : Int) == 0)) rfl rfl rfl) (Zt hc62 ?_)
 exact GL.jump (fun _ _ h => h) ((r70 : Int) == 0) h ⟨rfl, trivial⟩
 replace h := h.2 hc62
 refine Zk hc62 (Zk hc62 (Zk hc62 (Zk hc62 (Zk hc62 (Zk hc62 (Zk hc62 (Zn hc62 ?_)))))))
 exact GL.jump (fun _ _ h => h) false h ⟨rfl, trivial⟩
 intro b59 H72 h
 replace h := hR61 b59 H72 h
 refine Za (GL.nil ?_)
 exact GC.ret (fun _ _ hf hs => post_tmp1 rfl rfl hf hs ⟨b59, rfl, h⟩)
def sh_law16_given (C : Ctx) (p_l : Sl) (K : Sl → Heap → Prop) (H : Heap) : Prop :=
 lp (α := Sl × Int) (Sl.nil, 0) H (fun x1 J2 H3 =>
 ift (decide ((x1.2 : Int) < (Sl.len p_l : Int)))
 (dr H3 fun Hs5 =>
 ixa p_l x1.2 fun p7 =>
 ldL Hs5 ((p7.1, p7.2 + (x1.2 : Int).toNat * 2).1, (p7.1, p7.2 + (x1.2 : Int).toNat * 2).2 + 0) fun x12 =>
 ixa p_l x1.2 fun p14 =>
 ldI Hs5 .i64 ((p14.1, p14.2 + (x1.2 : Int).toNat * 2).1, (p14.1, p14.2 + (x1.2 : Int).toNat * 2).2 + 1) fun x19 =>
 c_ref02_Own C x12 (fun r22 H23 =>
 Heap.le Hs5 H23 ∧
 nw ((T_zset_Entry.c (⟨r22, x19⟩ : T_zset_Entry)) ++ []) (fun b25 H26 =>
 Heap.le Hs5 H26 ∧
 apS (T_zset_Entry.c T_zset_Entry.zero) 32 x1.1 (Sl.of (some (b25, 0)) 1 1) (fun r28 H29 =>
 Heap.le Hs5 H29 ∧
 J2 (r28, (w .i64 (x1.2 + 1))) H29) H26) H23) H3)
 (K x1.1 H3))
theorem ad_law16_given (C : Ctx) (p_l : Sl) (K : Sl → Heap → Prop) (H : Heap) (h : sh_law16_given C p_l K H) : c_law16_given C p_l K H := by
 refine Spec.enter Tryz.func7 rfl Tryz.ntmps7 rfl (GC.sub [(0, slv p_l)] ⟨rfl, trivial⟩ (Zo (Za (GL.nil (Zo (Za (GL.nil (GC.seq (Zo (Za (GL.nil ?_)))))))))))
 refine GC.block (GC.loop (α := Sl × Int) h (fun x1 => [(3, slv x1.1), (4, .int .i64 x1.2), (0, slv p_l)]) ⟨rfl, rfl, rfl, trivial⟩ ?_)
 intro x1 H3 J2 h
 refine GC.seq (Zo (Zm (Zm (Zq (Zi (.bool (decide ((x1.2 : Int) < (Sl.len p_l : Int)))) (GL.nil ?_))))))
 refine Zd (fun hc4 => ?_) fun hc4 => ?_
 replace h := h.1 hc4
 refine GC.skip (GC.seq (GC.block ?_))
 obtain ⟨Hs5, hle6, h⟩ := h
 refine GC.any (Hs := Hs5) (by kernel_rfl) hle6 (Zp 0 rfl (OV.move rfl) (Zp 1 rfl (OV.move rfl) (Zp 2 rfl (OV.move rfl) ?_)))
 obtain ⟨p7, ha8, hb9, hc10, hd11, h⟩ := h
 refine Zp 3 rfl (OV.indexAddr rfl rfl rfl rfl ha8 hb9 hc10 hd11) (Zp 4 rfl (OV.fieldAddr rfl rfl) ?_)
 obtain ⟨x12, hr13, h⟩ := h
 refine Zp 5 rfl (OV.load rfl rfl hr13) (Zp 7 rfl (OV.move rfl) (Zp 8 rfl (OV.move rfl) ?_))
 obtain ⟨p14, ha15, hb16, hc17, hd18, h⟩ := h
 refine Zp 9 rfl (OV.indexAddr rfl rfl rfl rfl ha15 hb16 hc17 hd18) (Zp 10 rfl (OV.fieldAddr rfl rfl) ?_)
 obtain ⟨x19, hr20, h⟩ := h
 refine Zp 11 rfl (OV.load rfl rfl hr20) (GA.eff 6 rfl (by kernel_rfl) (Zc h ok_ref02_Own ?_))
 rintro _ H23 ⟨r22, rfl, h⟩
 obtain ⟨hle21, h⟩ := h
 refine GA.back hle21 (Zp 12 rfl (OV.build (vs := [(0, slv r22), (1, .int .i64 x19)]) (v := .agg (T_zset_Entry.c (⟨r22, x19⟩ : T_zset_Entry)).toArray) rfl (fun _ => by kernel_rfl)) (GA.eff 13 rfl (by kernel_rfl) (GL.buildSlice (cs := (T_zset_Entry.c (⟨r22, x19⟩ : T_zset_Entry)) ++ []) h trivial rfl (vs := [(0, .agg (T_zset_Entry.c (⟨r22, x19⟩ : T_zset_Entry)).toArray)]) rfl ⟨43, fun _ => by kernel_rfl⟩ ?_)))
 intro b25 H26 h
 obtain ⟨hle24, h⟩ := h
 refine GA.back hle24 (GA.eff 14 rfl (by kernel_rfl) (GL.appendS (s := x1.1) (s2 := (Sl.of (some (b25, 0)) 1 1)) (zc := T_zset_Entry.c T_zset_Entry.zero) (bytes := 32) h trivial rfl rfl rfl ⟨⟨_, _, _, rfl, rfl, rfl, rfl, rfl, rfl⟩⟩ rfl ?_))
 intro r28 H29 h
 obtain ⟨hle27, h⟩ := h
 refine GA.back hle27 (Zp 15 rfl (OV.assign rfl) (GA.done (by kernel_rfl) (GL.nil_to (fun _ _ h => h) (GC.region (Zm (Zi (.int .i64 (w .i64 (x1.2 + 1))) (Za ?_)))))))
 exact GL.jump (fun _ _ h => h) (r28, (w .i64 (x1.2 + 1))) h ⟨rfl, rfl, rfl, trivial⟩
 replace h := h.2 hc4
 refine GC.exit_to (fun _ _ h => h) (Zo (Zm (Za (GL.nil ?_))))
 exact GC.ret (fun _ _ hf hs => post_tmp1 rfl rfl hf hs ⟨x1.1, rfl, h⟩)
def sh_zset_Add (C : Ctx) (p_a : Sl) (p_b : Sl) (K : Sl → Int → Heap → Prop) (H : Heap) : Prop :=
 nw ((T_zset_part.c (⟨p_a, (.func (.func 27) (List.toArray []) (List.toArray []) : Value)⟩ : T_zset_part)) ++ (T_zset_part.c (⟨p_b, (.func (.func 27) (List.toArray []) (List.toArray []) : Value)⟩ : T_zset_part)) ++ []) (fun b1 H2 =>
 c_zset_sums C (Sl.of (some (b1, 0)) 2 2) (fun r3 r4 H5 =>
 K r3 r4 H5) H2) H
theorem ad_zset_Add (C : Ctx) (p_a : Sl) (p_b : Sl) (K : Sl → Int → Heap → Prop) (H : Heap) (h : sh_zset_Add C p_a p_b K H) : c_zset_Add C p_a p_b K H := by
 refine Spec.enter Tryz.func8 rfl Tryz.ntmps8 rfl (GC.sub [(0, slv p_a), (1, slv p_b)] ⟨rfl, rfl, trivial⟩ (Zo (Za (Za (GL.nil (Zo (Zm (Zv (OV.build (vs := [(0, slv p_a), (1, .func (.func 27) (List.toArray []) (List.toArray []))]) (v := .agg (T_zset_part.c (⟨p_a, (.func (.func 27) (List.toArray []) (List.toArray []) : Value)⟩ : T_zset_part)).toArray) rfl (fun _ => by kernel_rfl)) (Zm (Zv (OV.build (vs := [(0, slv p_b), (1, .func (.func 27) (List.toArray []) (List.toArray []))]) (v := .agg (T_zset_part.c (⟨p_b, (.func (.func 27) (List.toArray []) (List.toArray []) : Value)⟩ : T_zset_part)).toArray) rfl (fun _ => by kernel_rfl)) (GL.buildSlice (cs := (T_zset_part.c (⟨p_a, (.func (.func 27) (List.toArray []) (List.toArray []) : Value)⟩ : T_zset_part)) ++ (T_zset_part.c (⟨p_b, (.func (.func 27) (List.toArray []) (List.toArray []) : Value)⟩ : T_zset_part)) ++ []) h trivial rfl (vs := [(0, .agg (T_zset_part.c (⟨p_a, (.func (.func 27) (List.toArray []) (List.toArray []) : Value)⟩ : T_zset_part)).toArray), (1, .agg (T_zset_part.c (⟨p_b, (.func (.func 27) (List.toArray []) (List.toArray []) : Value)⟩ : T_zset_part)).toArray)]) rfl ⟨57, fun _ => by kernel_rfl⟩ ?_)))))))))))
 intro b1 H2 h
 refine Zc h ok_zset_sums ?_
 rintro _ H5 ⟨r3, r4, rfl, h⟩
 refine Zv (OV.extract (v := slv r3) rfl rfl) (Zv (OV.extract (v := .int .i64 r4) rfl rfl) (Za (Za (GL.nil ?_))))
 exact GC.ret (fun _ _ hf hs => post_tmp2 rfl rfl rfl hf hs ⟨r3, r4, rfl, h⟩)
def sh_ref16_Add (C : Ctx) (p_a : Sl) (p_b : Sl) (K : Sl → Int → Heap → Prop) (H : Heap) : Prop :=
 c_ref16_both C p_a p_b false (fun r1 H2 =>
 c_ref16_Clean C r1 (fun r3 r4 H5 =>
 K r3 r4 H5) H2) H
theorem ad_ref16_Add (C : Ctx) (p_a : Sl) (p_b : Sl) (K : Sl → Int → Heap → Prop) (H : Heap) (h : sh_ref16_Add C p_a p_b K H) : c_ref16_Add C p_a p_b K H := by
 refine Spec.enter Tryz.func9 rfl Tryz.ntmps9 rfl (GC.sub [(0, slv p_a), (1, slv p_b)] ⟨rfl, rfl, trivial⟩ (Zo (Za (Za (GL.nil (Zo (Zm (Zm (Zc h ok_ref16_both ?_)))))))))
 rintro _ H2 ⟨r1, rfl, h⟩
 refine Zc h ok_ref16_Clean ?_
 rintro _ H5 ⟨r3, r4, rfl, h⟩
 refine Zv (OV.extract (v := slv r3) rfl rfl) (Zv (OV.extract (v := .int .i64 r4) rfl rfl) (Za (Za (GL.nil ?_))))
 exact GC.ret (fun _ _ hf hs => post_tmp2 rfl rfl rfl hf hs ⟨r3, r4, rfl, h⟩)
def sh_law16_like (C : Ctx) (p_got : Sl) (p_e : Int) (p_want : Sl) (p_f : Int) (K : Bool → Heap → Prop) (H : Heap) : Prop :=
 jn (α := Bool) (fun b1 H9 =>
 ift b1
 (K false H9)
 (lp (α := Int) 0 H9 (fun x11 J12 H13 =>
 ift (decide ((x11 : Int) < (Sl.len p_got : Int)))
 (ixa p_got x11 fun p15 =>
 ldL H13 ((p15.1, p15.2 + (x11 : Int).toNat * 2).1, (p15.1, p15.2 + (x11 : Int).toNat * 2).2 + 0) fun x20 =>
 c_law16_spoil C x20 (fun H22 =>
 ixa p_got x11 fun p23 =>
 st ((p23.1, p23.2 + (x11 : Int).toNat * 2).1, (p23.1, p23.2 + (x11 : Int).toNat * 2).2 + 1) (.int .i64 7) (fun H28 =>
 J12 (w .i64 (x11 + 1)) H28) H22) H13)
 (K true H13))))
 (fun J2 => ift ((p_e : Int) != p_f)
 (J2 true H)
 (c_law16_back C p_got (fun r5 H6 =>
 c_ref16_Same C r5 p_want (fun r7 H8 =>
 J2 (!r7) H8) H6) H))
theorem ad_law16_like (C : Ctx) (p_got : Sl) (p_e : Int) (p_want : Sl) (p_f : Int) (K : Bool → Heap → Prop) (H : Heap) (h : sh_law16_like C p_got p_e p_want p_f K H) : c_law16_like C p_got p_e p_want p_f K H := by
 refine Spec.enter Tryz.func10 rfl Tryz.ntmps10 rfl (GC.sub [(0, slv p_got), (1, .int .i64 p_e), (2, slv p_want), (3, .int .i64 p_f)] ⟨rfl, rfl, rfl, rfl, trivial⟩ (Zo (Za (GL.nil (GC.seq (Zo (Zm (Zm (Zi (.bool ((p_e : Int) != p_f)) (Zm ?_))))))))))
 obtain ⟨J2, h, hR3⟩ := h
 refine GL.cut (α := Bool) 6 J2 (fun b1 => [(19, .bool b1), (0, slv p_got)]) ?_ ?_
 rcases Zb ((p_e : Int) != p_f) with hc4 | hc4
 replace h := h.1 hc4
 refine Zk hc4 (Zk hc4 (Zk hc4 (Zk hc4 (Zk hc4 (Zt hc4 ?_)))))
 exact GL.jump (fun _ _ h => h) true h ⟨rfl, rfl, trivial⟩
 replace h := h.2 hc4
 refine Zu hc4 (OV.move rfl) (GL.call h ⟨_, _, rfl, rfl, hc4⟩ rfl ok_law16_back (vs := [slv p_got]) rfl ?_)
 rintro _ H6 ⟨r5, rfl, h⟩
 refine Zu hc4 (OV.move rfl) (GL.call h ⟨_, _, rfl, rfl, hc4⟩ rfl ok_ref16_Same (vs := [slv r5, slv p_want]) rfl ?_)
 rintro _ H8 ⟨r7, rfl, h⟩
 refine Zu hc4 (OV.not rfl) (Zn hc4 ?_)
 exact GL.jump (fun _ _ h => h) (!r7) h ⟨rfl, rfl, trivial⟩
 intro b1 H9 h
 replace h := hR3 b1 H9 h
 refine GL.nil ?_
 refine Zd (fun hc10 => ?_) fun hc10 => ?_
 replace h := h.1 hc10
 refine Zo (Za (GL.nil ?_))
 exact GC.ret (fun _ _ hf hs => post_tmp1 rfl rfl hf hs ⟨false, rfl, h⟩)
 replace h := h.2 hc10
 refine GC.skip (GC.seq (Zo (Za (GL.nil (GC.block (GC.loop (α := Int) h (fun x11 => [(9, .int .i64 x11), (0, slv p_got)]) ⟨rfl, rfl, trivial⟩ ?_))))))
 intro x11 H13 J12 h
 refine GC.seq (Zo (Zm (Zm (Zq (Zi (.bool (decide ((x11 : Int) < (Sl.len p_got : Int)))) (GL.nil ?_))))))
 refine Zd (fun hc14 => ?_) fun hc14 => ?_
 replace h := h.1 hc14
 refine GC.skip (GC.seq (GC.block (Zo (Zm (Zm ?_)))))
 obtain ⟨p15, ha16, hb17, hc18, hd19, h⟩ := h
 refine Zx ha16 hb17 hc18 hd19 (Zf ?_)
 obtain ⟨x20, hr21, h⟩ := h
 refine Zl hr21 (Zc h ok_law16_spoil ?_)
 rintro _ H22 ⟨rfl, h⟩
 refine GL.nil (GC.region (Zm (Zm ?_)))
 obtain ⟨p23, ha24, hb25, hc26, hd27, h⟩ := h
 refine Zx ha24 hb25 hc26 hd27 (Zf (GL.store (p := ((p23.1, p23.2 + (x11 : Int).toNat * 2).1, (p23.1, p23.2 + (x11 : Int).toNat * 2).2 + 1)) (v := .int .i64 7) h trivial rfl rfl rfl rfl ?_))
 intro H28 h
 refine GL.nil_to (fun _ _ h => h) (GC.region (Zm (Zi (.int .i64 (w .i64 (x11 + 1))) (Za ?_))))
 exact GL.jump (fun _ _ h => h) (w .i64 (x11 + 1)) h ⟨rfl, rfl, trivial⟩
 replace h := h.2 hc14
 refine GC.exit_to (fun _ _ h => h) (Zo (Za (GL.nil ?_)))
 exact GC.ret (fun _ _ hf hs => post_tmp1 rfl rfl hf hs ⟨true, rfl, h⟩)
def sh_zset_Less (C : Ctx) (p_a : Sl) (p_b : Sl) (K : Sl → Int → Heap → Prop) (H : Heap) : Prop :=
 nw ((T_zset_part.c (⟨p_a, (.func (.func 27) (List.toArray []) (List.toArray []) : Value)⟩ : T_zset_part)) ++ (T_zset_part.c (⟨p_b, (.func (.func 31) (List.toArray []) (List.toArray []) : Value)⟩ : T_zset_part)) ++ []) (fun b1 H2 =>
 c_zset_sums C (Sl.of (some (b1, 0)) 2 2) (fun r3 r4 H5 =>
 K r3 r4 H5) H2) H
theorem ad_zset_Less (C : Ctx) (p_a : Sl) (p_b : Sl) (K : Sl → Int → Heap → Prop) (H : Heap) (h : sh_zset_Less C p_a p_b K H) : c_zset_Less C p_a p_b K H := by
 refine Spec.enter Tryz.func11 rfl Tryz.ntmps11 rfl (GC.sub [(0, slv p_a), (1, slv p_b)] ⟨rfl, rfl, trivial⟩ (Zo (Za (Za (GL.nil (Zo (Zm (Zv (OV.build (vs := [(0, slv p_a), (1, .func (.func 27) (List.toArray []) (List.toArray []))]) (v := .agg (T_zset_part.c (⟨p_a, (.func (.func 27) (List.toArray []) (List.toArray []) : Value)⟩ : T_zset_part)).toArray) rfl (fun _ => by kernel_rfl)) (Zm (Zv (OV.build (vs := [(0, slv p_b), (1, .func (.func 31) (List.toArray []) (List.toArray []))]) (v := .agg (T_zset_part.c (⟨p_b, (.func (.func 31) (List.toArray []) (List.toArray []) : Value)⟩ : T_zset_part)).toArray) rfl (fun _ => by kernel_rfl)) (GL.buildSlice (cs := (T_zset_part.c (⟨p_a, (.func (.func 27) (List.toArray []) (List.toArray []) : Value)⟩ : T_zset_part)) ++ (T_zset_part.c (⟨p_b, (.func (.func 31) (List.toArray []) (List.toArray []) : Value)⟩ : T_zset_part)) ++ []) h trivial rfl (vs := [(0, .agg (T_zset_part.c (⟨p_a, (.func (.func 27) (List.toArray []) (List.toArray []) : Value)⟩ : T_zset_part)).toArray), (1, .agg (T_zset_part.c (⟨p_b, (.func (.func 31) (List.toArray []) (List.toArray []) : Value)⟩ : T_zset_part)).toArray)]) rfl ⟨57, fun _ => by kernel_rfl⟩ ?_)))))))))))
 intro b1 H2 h
 refine Zc h ok_zset_sums ?_
 rintro _ H5 ⟨r3, r4, rfl, h⟩
 refine Zv (OV.extract (v := slv r3) rfl rfl) (Zv (OV.extract (v := .int .i64 r4) rfl rfl) (Za (Za (GL.nil ?_))))
 exact GC.ret (fun _ _ hf hs => post_tmp2 rfl rfl rfl hf hs ⟨r3, r4, rfl, h⟩)
def sh_ref16_Less (C : Ctx) (p_a : Sl) (p_b : Sl) (K : Sl → Int → Heap → Prop) (H : Heap) : Prop :=
 c_ref16_both C p_a p_b true (fun r1 H2 =>
 c_ref16_Clean C r1 (fun r3 r4 H5 =>
 K r3 r4 H5) H2) H
theorem ad_ref16_Less (C : Ctx) (p_a : Sl) (p_b : Sl) (K : Sl → Int → Heap → Prop) (H : Heap) (h : sh_ref16_Less C p_a p_b K H) : c_ref16_Less C p_a p_b K H := by
 refine Spec.enter Tryz.func12 rfl Tryz.ntmps12 rfl (GC.sub [(0, slv p_a), (1, slv p_b)] ⟨rfl, rfl, trivial⟩ (Zo (Za (Za (GL.nil (Zo (Zm (Zm (Zc h ok_ref16_both ?_)))))))))
 rintro _ H2 ⟨r1, rfl, h⟩
 refine Zc h ok_ref16_Clean ?_
 rintro _ H5 ⟨r3, r4, rfl, h⟩
 refine Zv (OV.extract (v := slv r3) rfl rfl) (Zv (OV.extract (v := .int .i64 r4) rfl rfl) (Za (Za (GL.nil ?_))))
 exact GC.ret (fun _ _ hf hs => post_tmp2 rfl rfl rfl hf hs ⟨r3, r4, rfl, h⟩)
def sh_ref16_Same (C : Ctx) (p_a : Sl) (p_b : Sl) (K : Bool → Heap → Prop) (H : Heap) : Prop :=
 ift (((Sl.len p_a : Int) : Int) != (Sl.len p_b : Int))
 (K false H)
 (lp (α := Int) 0 H (fun x2 J3 H4 =>
 ift (decide ((x2 : Int) < (Sl.len p_a : Int)))
 (jn (α := Bool) (fun x7 H8 =>
 ift x7
 (K false H8)
 (J3 (w .i64 (x2 + 1)) H8))
 (fun J6 => dr H4 fun Hs10 =>
 ixa p_a x2 fun p12 =>
 ldI Hs10 .i64 ((p12.1, p12.2 + (x2 : Int).toNat * 2).1, (p12.1, p12.2 + (x2 : Int).toNat * 2).2 + 1) fun x17 =>
 ixa p_b x2 fun p19 =>
 ldI Hs10 .i64 ((p19.1, p19.2 + (x2 : Int).toNat * 2).1, (p19.1, p19.2 + (x2 : Int).toNat * 2).2 + 1) fun x24 =>
 ift ((x17 : Int) != x24)
 (J6 true H4)
 (ixa p_a x2 fun p27 =>
 ldL Hs10 ((p27.1, p27.2 + (x2 : Int).toNat * 2).1, (p27.1, p27.2 + (x2 : Int).toNat * 2).2 + 0) fun x32 =>
 ixa p_b x2 fun p34 =>
 ldL Hs10 ((p34.1, p34.2 + (x2 : Int).toNat * 2).1, (p34.1, p34.2 + (x2 : Int).toNat * 2).2 + 0) fun x39 =>
 c_ref02_SameRow C x32 x39 (fun r42 H43 =>
 Heap.le Hs10 H43 ∧
 J6 (!r42) H43) H4)))
 (K true H4)))
theorem ad_ref16_Same (C : Ctx) (p_a : Sl) (p_b : Sl) (K : Bool → Heap → Prop) (H : Heap) (h : sh_ref16_Same C p_a p_b K H) : c_ref16_Same C p_a p_b K H := by
 refine Spec.enter Tryz.func13 rfl Tryz.ntmps13 rfl (GC.sub [(0, slv p_a), (1, slv p_b)] ⟨rfl, rfl, trivial⟩ (Zo (Za (GL.nil (GC.seq (Zo (Zm (Zq (Zm (Zq (Zi (.bool (((Sl.len p_a : Int) : Int) != (Sl.len p_b : Int))) ?_)))))))))))
 refine GL.nil ?_
 refine Zd (fun hc1 => ?_) fun hc1 => ?_
 replace h := h.1 hc1
 refine Zo (Za (GL.nil ?_))
 exact GC.ret (fun _ _ hf hs => post_tmp1 rfl rfl hf hs ⟨false, rfl, h⟩)
 replace h := h.2 hc1
 refine GC.skip (GC.seq (Zo (Za (GL.nil (GC.block (GC.loop (α := Int) h (fun x2 => [(5, .int .i64 x2), (0, slv p_a), (1, slv p_b)]) ⟨rfl, rfl, rfl, trivial⟩ ?_))))))
 intro x2 H4 J3 h
 refine GC.seq (Zo (Zm (Zm (Zq (Zi (.bool (decide ((x2 : Int) < (Sl.len p_a : Int)))) (GL.nil ?_))))))
 refine Zd (fun hc5 => ?_) fun hc5 => ?_
 replace h := h.1 hc5
 refine GC.skip (GC.seq (GC.block (GC.seq ?_)))
 obtain ⟨J6, h, hR9⟩ := h
 refine GC.meet (α := Bool) J6 (fun x7 => [(41, .bool x7), (0, slv p_a), (1, slv p_b), (5, .int .i64 x2)]) ?_ ?_
 obtain ⟨Hs10, hle11, h⟩ := h
 refine GC.any (Hs := Hs10) (by kernel_rfl) hle11 (Zp 0 rfl (OV.move rfl) (Zp 1 rfl (OV.move rfl) ?_))
 obtain ⟨p12, ha13, hb14, hc15, hd16, h⟩ := h
 refine Zp 2 rfl (OV.indexAddr rfl rfl rfl rfl ha13 hb14 hc15 hd16) (Zp 3 rfl (OV.fieldAddr rfl rfl) ?_)
 obtain ⟨x17, hr18, h⟩ := h
 refine Zp 4 rfl (OV.load rfl rfl hr18) (Zp 5 rfl (OV.move rfl) (Zp 6 rfl (OV.move rfl) ?_))
 obtain ⟨p19, ha20, hb21, hc22, hd23, h⟩ := h
 refine Zp 7 rfl (OV.indexAddr rfl rfl rfl rfl ha20 hb21 hc22 hd23) (Zp 8 rfl (OV.fieldAddr rfl rfl) ?_)
 obtain ⟨x24, hr25, h⟩ := h
 refine Zp 9 rfl (OV.load rfl rfl hr25) (Zp 10 rfl (OV.ibin (v := .bool ((x17 : Int) != x24)) rfl rfl rfl) (Zp 11 rfl (OV.move rfl) ?_))
 rcases Zb ((x17 : Int) != x24) with hc26 | hc26
 replace h := h.1 hc26
 refine Zj 12 rfl ⟨_, rfl, .inl ⟨_, rfl, hc26⟩⟩ (Zj 13 rfl ⟨_, rfl, .inl ⟨_, rfl, hc26⟩⟩ (Zj 14 rfl ⟨_, rfl, .inl ⟨_, rfl, hc26⟩⟩ (Zj 15 rfl ⟨_, rfl, .inl ⟨_, rfl, hc26⟩⟩ (Zj 16 rfl ⟨_, rfl, .inl ⟨_, rfl, hc26⟩⟩ (Zj 17 rfl ⟨_, rfl, .inl ⟨_, rfl, hc26⟩⟩ (Zj 18 rfl ⟨_, rfl, .inl ⟨_, rfl, hc26⟩⟩ (Zj 19 rfl ⟨_, rfl, .inl ⟨_, rfl, hc26⟩⟩ (Zj 20 rfl ⟨_, rfl, .inl ⟨_, rfl, hc26⟩⟩ (Zj 21 rfl ⟨_, rfl, .inl ⟨_, rfl, hc26⟩⟩ (Zj 22 rfl ⟨_, rfl, .inl ⟨_, rfl, hc26⟩⟩ (Zj 23 rfl ⟨_, rfl, .inl ⟨_, rfl, hc26⟩⟩ ?_)))))))))))
 refine Zp 24 rfl (OV.pickT rfl hc26 rfl) (GA.done (by kernel_rfl) ?_)
 exact GL.jump (fun _ _ h => h) true h ⟨rfl, rfl, rfl, rfl, trivial⟩
 replace h := h.2 hc26
 refine Zg 12 rfl ⟨_, _, rfl, rfl, hc26⟩ (OV.move rfl) (Zg 13 rfl ⟨_, _, rfl, rfl, hc26⟩ (OV.move rfl) ?_)
 obtain ⟨p27, ha28, hb29, hc30, hd31, h⟩ := h
 refine Zg 14 rfl ⟨_, _, rfl, rfl, hc26⟩ (OV.indexAddr rfl rfl rfl rfl ha28 hb29 hc30 hd31) (Zg 15 rfl ⟨_, _, rfl, rfl, hc26⟩ (OV.fieldAddr rfl rfl) ?_)
 obtain ⟨x32, hr33, h⟩ := h
 refine Zg 16 rfl ⟨_, _, rfl, rfl, hc26⟩ (OV.load rfl rfl hr33) (Zg 17 rfl ⟨_, _, rfl, rfl, hc26⟩ (OV.move rfl) (Zg 18 rfl ⟨_, _, rfl, rfl, hc26⟩ (OV.move rfl) ?_))
 obtain ⟨p34, ha35, hb36, hc37, hd38, h⟩ := h
 refine Zg 19 rfl ⟨_, _, rfl, rfl, hc26⟩ (OV.indexAddr rfl rfl rfl rfl ha35 hb36 hc37 hd38) (Zg 20 rfl ⟨_, _, rfl, rfl, hc26⟩ (OV.fieldAddr rfl rfl) ?_)
 obtain ⟨x39, hr40, h⟩ := h
 refine Zg 21 rfl ⟨_, _, rfl, rfl, hc26⟩ (OV.load rfl rfl hr40) (GA.eff 22 rfl (by kernel_rfl) (GL.call h ⟨_, _, rfl, rfl, hc26⟩ rfl ok_ref02_SameRow (vs := [slv x32, slv x39]) rfl ?_))
 rintro _ H43 ⟨r42, rfl, h⟩
 obtain ⟨hle41, h⟩ := h
 refine GA.back hle41 (Zg 23 rfl ⟨_, _, rfl, rfl, hc26⟩ (OV.not rfl) (Zp 24 rfl (OV.pickF rfl hc26 rfl) (GA.done (by kernel_rfl) ?_)))
 exact GL.jump (fun _ _ h => h) (!r42) h ⟨rfl, rfl, rfl, rfl, trivial⟩
 intro x7 H8 h
 replace h := hR9 x7 H8 h
 refine GL.nil ?_
 refine Zd (fun hc44 => ?_) fun hc44 => ?_
 replace h := h.1 hc44
 refine Zo (Za (GL.nil ?_))
 exact GC.ret (fun _ _ hf hs => post_tmp1 rfl rfl hf hs ⟨false, rfl, h⟩)
 replace h := h.2 hc44
 refine GC.skip_to (fun _ _ h => h) (GC.region (Zm (Zi (.int .i64 (w .i64 (x2 + 1))) (Za ?_))))
 exact GL.jump (fun _ _ h => h) (w .i64 (x2 + 1)) h ⟨rfl, rfl, rfl, trivial⟩
 replace h := h.2 hc5
 refine GC.exit_to (fun _ _ h => h) (Zo (Za (GL.nil ?_)))
 exact GC.ret (fun _ _ hf hs => post_tmp1 rfl rfl hf hs ⟨true, rfl, h⟩)
def sh_law16_back (C : Ctx) (p_l : Sl) (K : Sl → Heap → Prop) (H : Heap) : Prop :=
 lp (α := Sl × Int) (Sl.nil, 0) H (fun x1 J2 H3 =>
 ift (decide ((x1.2 : Int) < (Sl.len p_l : Int)))
 (dr H3 fun Hs5 =>
 ixa p_l x1.2 fun p7 =>
 ldL Hs5 ((p7.1, p7.2 + (x1.2 : Int).toNat * 2).1, (p7.1, p7.2 + (x1.2 : Int).toNat * 2).2 + 0) fun x12 =>
 ixa p_l x1.2 fun p14 =>
 ldI Hs5 .i64 ((p14.1, p14.2 + (x1.2 : Int).toNat * 2).1, (p14.1, p14.2 + (x1.2 : Int).toNat * 2).2 + 1) fun x19 =>
 nw ((T_zset_Entry.c (⟨x12, x19⟩ : T_zset_Entry)) ++ []) (fun b22 H23 =>
 Heap.le Hs5 H23 ∧
 apS (T_zset_Entry.c T_zset_Entry.zero) 32 x1.1 (Sl.of (some (b22, 0)) 1 1) (fun r25 H26 =>
 Heap.le Hs5 H26 ∧
 J2 (r25, (w .i64 (x1.2 + 1))) H26) H23) H3)
 (K x1.1 H3))
theorem ad_law16_back (C : Ctx) (p_l : Sl) (K : Sl → Heap → Prop) (H : Heap) (h : sh_law16_back C p_l K H) : c_law16_back C p_l K H := by
 refine Spec.enter Tryz.func14 rfl Tryz.ntmps14 rfl (GC.sub [(0, slv p_l)] ⟨rfl, trivial⟩ (Zo (Za (GL.nil (Zo (Za (GL.nil (GC.seq (Zo (Za (GL.nil ?_)))))))))))
 refine GC.block (GC.loop (α := Sl × Int) h (fun x1 => [(3, slv x1.1), (4, .int .i64 x1.2), (0, slv p_l)]) ⟨rfl, rfl, rfl, trivial⟩ ?_)
 intro x1 H3 J2 h
 refine GC.seq (Zo (Zm (Zm (Zq (Zi (.bool (decide ((x1.2 : Int) < (Sl.len p_l : Int)))) (GL.nil ?_))))))
 refine Zd (fun hc4 => ?_) fun hc4 => ?_
 replace h := h.1 hc4
 refine GC.skip (GC.seq (GC.block ?_))
 obtain ⟨Hs5, hle6, h⟩ := h
 refine GC.any (Hs := Hs5) (by kernel_rfl) hle6 (Zp 0 rfl (OV.move rfl) (Zp 1 rfl (OV.move rfl) (Zp 2 rfl (OV.move rfl) ?_)))
 obtain ⟨p7, ha8, hb9, hc10, hd11, h⟩ := h
 refine Zp 3 rfl (OV.indexAddr rfl rfl rfl rfl ha8 hb9 hc10 hd11) (Zp 4 rfl (OV.fieldAddr rfl rfl) ?_)
 obtain ⟨x12, hr13, h⟩ := h
 refine Zp 5 rfl (OV.load rfl rfl hr13) (Zp 6 rfl (OV.move rfl) (Zp 7 rfl (OV.move rfl) ?_))
 obtain ⟨p14, ha15, hb16, hc17, hd18, h⟩ := h
 refine Zp 8 rfl (OV.indexAddr rfl rfl rfl rfl ha15 hb16 hc17 hd18) (Zp 9 rfl (OV.fieldAddr rfl rfl) ?_)
 obtain ⟨x19, hr20, h⟩ := h
 refine Zp 10 rfl (OV.load rfl rfl hr20) (Zp 11 rfl (OV.build (vs := [(0, slv x12), (1, .int .i64 x19)]) (v := .agg (T_zset_Entry.c (⟨x12, x19⟩ : T_zset_Entry)).toArray) rfl (fun _ => by kernel_rfl)) (GA.eff 12 rfl (by kernel_rfl) (GL.buildSlice (cs := (T_zset_Entry.c (⟨x12, x19⟩ : T_zset_Entry)) ++ []) h trivial rfl (vs := [(0, .agg (T_zset_Entry.c (⟨x12, x19⟩ : T_zset_Entry)).toArray)]) rfl ⟨52, fun _ => by kernel_rfl⟩ ?_)))
 intro b22 H23 h
 obtain ⟨hle21, h⟩ := h
 refine GA.back hle21 (GA.eff 13 rfl (by kernel_rfl) (GL.appendS (s := x1.1) (s2 := (Sl.of (some (b22, 0)) 1 1)) (zc := T_zset_Entry.c T_zset_Entry.zero) (bytes := 32) h trivial rfl rfl rfl ⟨⟨_, _, _, rfl, rfl, rfl, rfl, rfl, rfl⟩⟩ rfl ?_))
 intro r25 H26 h
 obtain ⟨hle24, h⟩ := h
 refine GA.back hle24 (Zp 14 rfl (OV.assign rfl) (GA.done (by kernel_rfl) (GL.nil_to (fun _ _ h => h) (GC.region (Zm (Zi (.int .i64 (w .i64 (x1.2 + 1))) (Za ?_)))))))
 exact GL.jump (fun _ _ h => h) (r25, (w .i64 (x1.2 + 1))) h ⟨rfl, rfl, rfl, trivial⟩
 replace h := h.2 hc4
 refine GC.exit_to (fun _ _ h => h) (Zo (Zm (Za (GL.nil ?_))))
 exact GC.ret (fun _ _ hf hs => post_tmp1 rfl rfl hf hs ⟨x1.1, rfl, h⟩)
def sh_law16_weight (C : Ctx) (p_v : T_api_Value) (p_most : Int) (K : Int → Heap → Prop) (H : Heap) : Prop :=
 nw (T_api_Value.c p_v) (fun b1 H2 =>
 ldS H2 ((b1, 0).1, (b1, 0).2 + 2) fun x3 =>
 lp (α := Int × Int) ((w .i64 (1 + (w .i64 (Int.tdiv (List.length x3 : Int) 50)))), 0) H2 (fun x5 J6 H7 =>
 ldL H7 ((b1, 0).1, (b1, 0).2 + 3) fun x8 =>
 ift ((decide ((x5.2 : Int) < (Sl.len x8 : Int))) && (decide ((x5.1 : Int) < p_most)))
 (ldL H7 ((b1, 0).1, (b1, 0).2 + 3) fun x12 =>
 ixa x12 x5.2 fun p14 =>
 ldT H7 T_api_Value.c (p14.1, p14.2 + (x5.2 : Int).toNat * 4) fun x19 =>
 c_law16_weight C x19 (w .i64 (p_most - x5.1)) (fun r21 H22 =>
 J6 ((w .i64 (x5.1 + r21)), (w .i64 (x5.2 + 1))) H22) H7)
 (K x5.1 H7))) H
theorem ad_law16_weight (C : Ctx) (p_v : T_api_Value) (p_most : Int) (K : Int → Heap → Prop) (H : Heap) (h : sh_law16_weight C p_v p_most K H) : c_law16_weight C p_v p_most K H := by
 refine Spec.enter Tryz.func15 rfl Tryz.ntmps15 rfl (GC.sub [(0, .agg (T_api_Value.c p_v).toArray), (1, .int .i64 p_most)] ⟨rfl, rfl, trivial⟩ (Zo (GL.box (v := .agg (T_api_Value.c p_v).toArray) (cs := T_api_Value.c p_v) h trivial rfl rfl rfl ?_)))
 intro b1 H2 h
 refine Za (GL.nil (Zo (Zf ?_)))
 obtain ⟨x3, hr4, h⟩ := h
 refine Zl hr4 (Zr (Zv (OV.quo rfl rfl (by decide)) (Zi (.int .i64 (w .i64 (1 + (w .i64 (Int.tdiv (List.length x3 : Int) 50))))) (Za (GL.nil (GC.seq (Zo (Za (GL.nil (GC.block (GC.loop (α := Int × Int) h (fun x5 => [(5, .int .i64 x5.1), (6, .int .i64 x5.2), (1, .int .i64 p_most), (2, pv (some (b1, 0)))]) ⟨rfl, rfl, rfl, rfl, trivial⟩ ?_)))))))))))
 intro x5 H7 J6 h
 refine GC.seq (Zo (Zm (Zf ?_)))
 obtain ⟨x8, hr9, h⟩ := h
 refine Zl hr9 (Zq (Zi (.bool (decide ((x5.2 : Int) < (Sl.len x8 : Int)))) (Zm ?_)))
 refine GL.cut0 4 [(21, .bool ((decide ((x5.2 : Int) < (Sl.len x8 : Int))) && (decide ((x5.1 : Int) < p_most)))), (1, .int .i64 p_most), (2, pv (some (b1, 0))), (5, .int .i64 x5.1), (6, .int .i64 x5.2)] ?_ ?_
 rcases Zb (decide ((x5.2 : Int) < (Sl.len x8 : Int))) with hc10 | hc10
 refine Zu hc10 (OV.move rfl) (Zu hc10 (OV.move rfl) (Zu hc10 (OV.ibin (v := .bool (decide ((x5.1 : Int) < p_most))) rfl rfl rfl) (Zt hc10 ?_)))
 exact GL.jump0 (fun _ _ h => h) () rfl ⟨(by rw [hc10]; rfl), rfl, rfl, rfl, rfl, trivial⟩
 refine Zk hc10 (Zk hc10 (Zk hc10 (Zn hc10 ?_)))
 exact GL.jump0 (fun _ _ h => h) () rfl ⟨(by rw [hc10]; rfl), rfl, rfl, rfl, rfl, trivial⟩
 refine GL.nil ?_
 refine Zd (fun hc11 => ?_) fun hc11 => ?_
 replace h := h.1 hc11
 refine GC.skip (GC.seq (GC.block (GC.region (Zm (Zf ?_)))))
 obtain ⟨x12, hr13, h⟩ := h
 refine Zl hr13 (Zm ?_)
 obtain ⟨p14, ha15, hb16, hc17, hd18, h⟩ := h
 refine Zx ha15 hb16 hc17 hd18 ?_
 obtain ⟨x19, hr20, h⟩ := h
 refine Zv (OV.loadT rfl rfl rfl hr20) (Zm (Zm (Zi (.int .i64 (w .i64 (p_most - x5.1))) (Zc h ok_law16_weight ?_))))
 rintro _ H22 ⟨r21, rfl, h⟩
 refine Zi (.int .i64 (w .i64 (x5.1 + r21))) (Za (GL.nil_to (fun _ _ h => h) (GC.region (Zm (Zi (.int .i64 (w .i64 (x5.2 + 1))) (Za ?_))))))
 exact GL.jump (fun _ _ h => h) ((w .i64 (x5.1 + r21)), (w .i64 (x5.2 + 1))) h ⟨rfl, rfl, rfl, rfl, trivial⟩
 replace h := h.2 hc11
 refine GC.exit_to (fun _ _ h => h) (Zo (Zm (Za (GL.nil ?_))))
 exact GC.ret (fun _ _ hf hs => post_tmp1 rfl rfl hf hs ⟨x5.1, rfl, h⟩)
def sh_zset_Clean (C : Ctx) (p_l : Sl) (K : Sl → Int → Heap → Prop) (H : Heap) : Prop :=
 nw ((T_zset_part.c (⟨p_l, (.func (.func 27) (List.toArray []) (List.toArray []) : Value)⟩ : T_zset_part)) ++ []) (fun b1 H2 =>
 c_zset_sums C (Sl.of (some (b1, 0)) 1 1) (fun r3 r4 H5 =>
 K r3 r4 H5) H2) H
theorem ad_zset_Clean (C : Ctx) (p_l : Sl) (K : Sl → Int → Heap → Prop) (H : Heap) (h : sh_zset_Clean C p_l K H) : c_zset_Clean C p_l K H := by
 refine Spec.enter Tryz.func16 rfl Tryz.ntmps16 rfl (GC.sub [(0, slv p_l)] ⟨rfl, trivial⟩ (Zo (Za (Za (GL.nil (Zo (Zm (Zv (OV.build (vs := [(0, slv p_l), (1, .func (.func 27) (List.toArray []) (List.toArray []))]) (v := .agg (T_zset_part.c (⟨p_l, (.func (.func 27) (List.toArray []) (List.toArray []) : Value)⟩ : T_zset_part)).toArray) rfl (fun _ => by kernel_rfl)) (GL.buildSlice (cs := (T_zset_part.c (⟨p_l, (.func (.func 27) (List.toArray []) (List.toArray []) : Value)⟩ : T_zset_part)) ++ []) h trivial rfl (vs := [(0, .agg (T_zset_part.c (⟨p_l, (.func (.func 27) (List.toArray []) (List.toArray []) : Value)⟩ : T_zset_part)).toArray)]) rfl ⟨57, fun _ => by kernel_rfl⟩ ?_)))))))))
 intro b1 H2 h
 refine Zc h ok_zset_sums ?_
 rintro _ H5 ⟨r3, r4, rfl, h⟩
 refine Zv (OV.extract (v := slv r3) rfl rfl) (Zv (OV.extract (v := .int .i64 r4) rfl rfl) (Za (Za (GL.nil ?_))))
 exact GC.ret (fun _ _ hf hs => post_tmp2 rfl rfl rfl hf hs ⟨r3, r4, rfl, h⟩)
def sh_value_CmpRows (C : Ctx) (p_a : Sl) (p_b : Sl) (K : Int → Heap → Prop) (H : Heap) : Prop :=
 c_value_may C p_a (fun r1 H2 =>
 c_value_may C p_b (fun r3 H4 =>
 ift ((!r1) || (!r3))
 (c_value_last C r1 r3 (fun r7 H8 =>
 K r7 H8) H4)
 (c_value_rows C p_a p_b (fun r9 H10 =>
 K r9 H10) H4)) H2) H
theorem ad_value_CmpRows (C : Ctx) (p_a : Sl) (p_b : Sl) (K : Int → Heap → Prop) (H : Heap) (h : sh_value_CmpRows C p_a p_b K H) : c_value_CmpRows C p_a p_b K H := by
 refine Spec.enter Tryz.func18 rfl Tryz.ntmps18 rfl (GC.sub [(0, slv p_a), (1, slv p_b)] ⟨rfl, rfl, trivial⟩ (Zo (Za (GL.nil (GC.seq (Zo (Zm (Zc h ok_value_may ?_))))))))
 rintro _ H2 ⟨r1, rfl, h⟩
 refine Zm (Zc h ok_value_may ?_)
 rintro _ H4 ⟨r3, rfl, h⟩
 refine Za (Za (GL.nil (Zo (Zm (Zv (OV.not rfl) (Zm ?_))))))
 refine GL.cut0 3 [(16, .bool ((!r1) || (!r3))), (0, slv p_a), (1, slv p_b), (5, .bool r1), (6, .bool r3)] ?_ ?_
 rcases Zb (!r1) with hc5 | hc5
 refine Zk hc5 (Zk hc5 (Zt hc5 ?_))
 exact GL.jump0 (fun _ _ h => h) () rfl ⟨(by rw [hc5]; rfl), rfl, rfl, rfl, rfl, trivial⟩
 refine Zu hc5 (OV.move rfl) (Zu hc5 (OV.not rfl) (Zn hc5 ?_))
 exact GL.jump0 (fun _ _ h => h) () rfl ⟨(by rw [hc5]; rfl), rfl, rfl, rfl, rfl, trivial⟩
 refine GL.nil ?_
 refine Zd (fun hc6 => ?_) fun hc6 => ?_
 replace h := h.1 hc6
 refine Zo (Zm (Zm (Zc h ok_value_last ?_)))
 rintro _ H8 ⟨r7, rfl, h⟩
 refine Za (GL.nil ?_)
 exact GC.ret (fun _ _ hf hs => post_tmp1 rfl rfl hf hs ⟨r7, rfl, h⟩)
 replace h := h.2 hc6
 refine GC.skip (Zo (Zm (Zm (Zc h ok_value_rows ?_))))
 rintro _ H10 ⟨r9, rfl, h⟩
 refine Za (GL.nil ?_)
 exact GC.ret (fun _ _ hf hs => post_tmp1 rfl rfl hf hs ⟨r9, rfl, h⟩)
def sh_zset_Distinct (C : Ctx) (p_l : Sl) (K : Sl → Int → Heap → Prop) (H : Heap) : Prop :=
 c_zset_Clean C p_l (fun r1 r2 H3 =>
 c_slices_DeleteFunc_zset_Entry_zset_Entry C r1 (.func (.func 37) (List.toArray []) (List.toArray []) : Value) (fun r4 H5 =>
 lp (α := Int) 0 H5 (fun x6 J7 H8 =>
 ift (decide ((x6 : Int) < (Sl.len r4 : Int)))
 (ixa r4 x6 fun p10 =>
 st ((p10.1, p10.2 + (x6 : Int).toNat * 2).1, (p10.1, p10.2 + (x6 : Int).toNat * 2).2 + 1) (.int .i64 1) (fun H15 =>
 J7 (w .i64 (x6 + 1)) H15) H8)
 (K r4 r2 H8))) H3) H
theorem ad_zset_Distinct (C : Ctx) (p_l : Sl) (K : Sl → Int → Heap → Prop) (H : Heap) (h : sh_zset_Distinct C p_l K H) : c_zset_Distinct C p_l K H := by
 refine Spec.enter Tryz.func19 rfl Tryz.ntmps19 rfl (GC.sub [(0, slv p_l)] ⟨rfl, trivial⟩ (Zo (Za (Za (GL.nil (Zo (Zm (Zc h ok_zset_Clean ?_))))))))
 rintro _ H3 ⟨r1, r2, rfl, h⟩
 refine Zm (Zv (OV.extract (v := slv r1) rfl rfl) (Zv (OV.extract (v := .int .i64 r2) rfl rfl) (Za (Za (GL.nil (Zo (Zm (Zc h ok_slices_DeleteFunc_zset_Entry_zset_Entry ?_))))))))
 rintro _ H5 ⟨r4, rfl, h⟩
 refine Za (GL.nil (GC.seq (Zo (Zm (Zq (Zm (GL.nil (GC.block (GC.loop (α := Int) h (fun x6 => [(16, .int .i64 x6), (4, slv r4), (5, .int .i64 r2), (15, .int .i64 (Sl.len r4 : Int))]) ⟨rfl, rfl, rfl, rfl, trivial⟩ ?_)))))))))
 intro x6 H8 J7 h
 refine Zo (Zi (.bool (decide ((x6 : Int) < (Sl.len r4 : Int)))) (GL.nil (GC.seq ?_)))
 refine Zd (fun hc9 => ?_) fun hc9 => ?_
 replace h := h.1 hc9
 refine GC.skip (GC.seq (GC.block (Zo (Zm (Za (GL.nil (GC.region (Zm (Zm ?_)))))))))
 obtain ⟨p10, ha11, hb12, hc13, hd14, h⟩ := h
 refine Zx ha11 hb12 hc13 hd14 (Zf (GL.store (p := ((p10.1, p10.2 + (x6 : Int).toNat * 2).1, (p10.1, p10.2 + (x6 : Int).toNat * 2).2 + 1)) (v := .int .i64 1) h trivial rfl rfl rfl rfl ?_))
 intro H15 h
 refine GL.nil_to (fun _ _ h => h) (GC.region (Zi (.int .i64 (w .i64 (x6 + 1))) (Zm ?_)))
 exact GL.jump (fun _ _ h => h) (w .i64 (x6 + 1)) h ⟨rfl, rfl, rfl, rfl, trivial⟩
 replace h := h.2 hc9
 refine GC.exit_to (fun _ _ h => h) (Zo (Zm (Zm (Za (Za (GL.nil ?_))))))
 exact GC.ret (fun _ _ hf hs => post_tmp2 rfl rfl rfl hf hs ⟨r4, r2, rfl, h⟩)
def sh_value_Check (C : Ctx) (p_v : T_api_Value) (K : Int → Heap → Prop) (H : Heap) : Prop :=
 nw (T_api_Value.c p_v) (fun b1 H2 =>
 ldT H2 T_api_Value.c (b1, 0) fun x3 =>
 c_value_depth C x3 65 (fun r5 H6 =>
 ift (decide ((r5 : Int) > 64))
 (K 65 H6)
 (ldT H6 T_api_Value.c (b1, 0) fun x8 =>
 c_value_item_look C x8 (fun r10 r11 H12 =>
 ift (!r10)
 (K 4 H12)
 (ift (!r11)
 (K 40 H12)
 (K 0 H12))) H6)) H2) H
theorem ad_value_Check (C : Ctx) (p_v : T_api_Value) (K : Int → Heap → Prop) (H : Heap) (h : sh_value_Check C p_v K H) : c_value_Check C p_v K H := by
 refine Spec.enter Tryz.func20 rfl Tryz.ntmps20 rfl (GC.sub [(0, .agg (T_api_Value.c p_v).toArray)] ⟨rfl, trivial⟩ (Zo (GL.box (v := .agg (T_api_Value.c p_v).toArray) (cs := T_api_Value.c p_v) h trivial rfl rfl rfl ?_)))
 intro b1 H2 h
 refine Za (GL.nil (GC.seq (Zo ?_)))
 obtain ⟨x3, hr4, h⟩ := h
 refine Zv (OV.loadT rfl rfl rfl hr4) (Zc h ok_value_depth ?_)
 rintro _ H6 ⟨r5, rfl, h⟩
 refine Zi (.bool (decide ((r5 : Int) > 64))) (GL.nil ?_)
 refine Zd (fun hc7 => ?_) fun hc7 => ?_
 replace h := h.1 hc7
 refine Zo (Za (GL.nil ?_))
 exact GC.ret (fun _ _ hf hs => post_tmp1 rfl rfl hf hs ⟨65, rfl, h⟩)
 replace h := h.2 hc7
 refine GC.skip (GC.seq (Zo ?_))
 obtain ⟨x8, hr9, h⟩ := h
 refine Zv (OV.loadT rfl rfl rfl hr9) (Zc h ok_value_item_look ?_)
 rintro _ H12 ⟨r10, r11, rfl, h⟩
 refine Zm (Zv (OV.extract (v := .bool r10) rfl rfl) (Zv (OV.extract (v := .bool r11) rfl rfl) (Za (Za (GL.nil (GC.block (Zo (Zm (Zv (OV.not rfl) (Za (GL.nil ?_)))))))))))
 refine Zd (fun hc13 => ?_) fun hc13 => ?_
 replace h := h.1 hc13
 refine Zo (Za (GL.nil ?_))
 exact GC.ret (fun _ _ hf hs => post_tmp1 rfl rfl hf hs ⟨4, rfl, h⟩)
 replace h := h.2 hc13
 refine Zo (Zm (Zv (OV.not rfl) (Za (GL.nil ?_))))
 refine Zd (fun hc14 => ?_) fun hc14 => ?_
 replace h := h.1 hc14
 refine Zo (Za (GL.nil ?_))
 exact GC.ret (fun _ _ hf hs => post_tmp1 rfl rfl hf hs ⟨40, rfl, h⟩)
 replace h := h.2 hc14
 refine GC.skip_to (fun _ _ h => h) (Zo (Za (GL.nil ?_)))
 exact GC.ret (fun _ _ hf hs => post_tmp1 rfl rfl hf hs ⟨0, rfl, h⟩)
def sh_ref02_Own (C : Ctx) (p_l : Sl) (K : Sl → Heap → Prop) (H : Heap) : Prop :=
 lp (α := Sl × Int) (Sl.nil, 0) H (fun x1 J2 H3 =>
 ift (decide ((x1.2 : Int) < (Sl.len p_l : Int)))
 (ixa p_l x1.2 fun p5 =>
 ldT H3 T_api_Value.c (p5.1, p5.2 + (x1.2 : Int).toNat * 4) fun x10 =>
 nw (T_api_Value.c T_api_Value.zero) (fun b12 H13 =>
 stT (b12, 0) (T_api_Value.c x10) (fun H14 =>
 ldL H14 ((b12, 0).1, (b12, 0).2 + 3) fun x15 =>
 c_ref02_Own C x15 (fun r17 H18 =>
 st ((b12, 0).1, (b12, 0).2 + 3) (slv r17) (fun H19 =>
 ldT H19 T_api_Value.c (b12, 0) fun x20 =>
 apd (T_api_Value.c T_api_Value.zero) 56 x1.1 ((T_api_Value.c x20) ++ []) 1 (fun r22 H23 =>
 J2 (r22, (w .i64 (x1.2 + 1))) H23) H19) H18) H14) H13) H3)
 (K x1.1 H3))
theorem ad_ref02_Own (C : Ctx) (p_l : Sl) (K : Sl → Heap → Prop) (H : Heap) (h : sh_ref02_Own C p_l K H) : c_ref02_Own C p_l K H := by
 refine Spec.enter Tryz.func25 rfl Tryz.ntmps25 rfl (GC.sub [(0, slv p_l)] ⟨rfl, trivial⟩ (Zo (Za (GL.nil (Zo (Za (GL.nil (GC.seq (Zo (Za (GL.nil ?_)))))))))))
 refine GC.block (GC.loop (α := Sl × Int) h (fun x1 => [(3, slv x1.1), (4, .int .i64 x1.2), (0, slv p_l)]) ⟨rfl, rfl, rfl, trivial⟩ ?_)
 intro x1 H3 J2 h
 refine GC.seq (Zo (Zm (Zm (Zq (Zi (.bool (decide ((x1.2 : Int) < (Sl.len p_l : Int)))) (GL.nil ?_))))))
 refine Zd (fun hc4 => ?_) fun hc4 => ?_
 replace h := h.1 hc4
 refine GC.skip (GC.seq (GC.block (Zo (Zm (Zm ?_)))))
 obtain ⟨p5, ha6, hb7, hc8, hd9, h⟩ := h
 refine Zx ha6 hb7 hc8 hd9 ?_
 obtain ⟨x10, hr11, h⟩ := h
 refine Zv (OV.loadT rfl rfl rfl hr11) (GL.alloc (cs := T_api_Value.c T_api_Value.zero) h trivial rfl rfl rfl ?_)
 intro b12 H13 h
 refine GL.storeT (p := (b12, 0)) (vs := T_api_Value.c x10) h trivial rfl rfl rfl rfl ?_
 intro H14 h
 refine GL.nil (Zo (Zf ?_))
 obtain ⟨x15, hr16, h⟩ := h
 refine Zl hr16 (Zc h ok_ref02_Own ?_)
 rintro _ H18 ⟨r17, rfl, h⟩
 refine Zf (GL.store (p := ((b12, 0).1, (b12, 0).2 + 3)) (v := slv r17) h trivial rfl rfl rfl rfl ?_)
 intro H19 h
 refine GL.nil (GC.region (Zm ?_))
 obtain ⟨x20, hr21, h⟩ := h
 refine Zv (OV.loadT rfl rfl rfl hr21) (GL.appendLit (s := x1.1) (ys := (T_api_Value.c x20) ++ []) (zc := T_api_Value.c T_api_Value.zero) (bytes := 56) h trivial rfl (fun _ => trivial) rfl (fun _ => rfl) (fun _ => rfl) (vs := [(0, .agg (T_api_Value.c x20).toArray)]) rfl ⟨39, fun _ => by kernel_rfl⟩ ⟨⟨_, _, _, rfl, rfl, rfl, rfl, rfl, rfl⟩⟩ rfl rfl ?_)
 intro _ r22 H23 h
 refine Za (GL.nil_to (fun _ _ h => h) (GC.region (Zm (Zi (.int .i64 (w .i64 (x1.2 + 1))) (Za ?_)))))
 exact GL.jump (fun _ _ h => h) (r22, (w .i64 (x1.2 + 1))) h ⟨rfl, rfl, rfl, trivial⟩
 replace h := h.2 hc4
 refine GC.exit_to (fun _ _ h => h) (Zo (Zm (Za (GL.nil ?_))))
 exact GC.ret (fun _ _ hf hs => post_tmp1 rfl rfl hf hs ⟨x1.1, rfl, h⟩)
def sh_zset_sums (C : Ctx) (p_parts : Sl) (K : Sl → Int → Heap → Prop) (H : Heap) : Prop :=
 nw ([slv Sl.nil]) (fun b1 H2 =>
 nw ([.int .i64 0]) (fun b3 H4 =>
 nw ([slv Sl.nil]) (fun b5 H6 =>
 nw ([.int .i64 0]) (fun b7 H8 =>
 st (b7, 0) (.int .i64 0) (fun H9 =>
 c_zset_each C p_parts (fun r10 H11 =>
 Rf.rng Tryz.prog C r10 2 H11
 (fun yl15 r16 us K19 H20 => ∃ (u12 : T_zset_Entry) (u13 : Value), us = [.agg (T_zset_Entry.c u12).toArray, u13] ∧
 nw (T_zset_Entry.c T_zset_Entry.zero) (fun b38 H39 =>
 stT (b38, 0) (T_zset_Entry.c u12) (fun H40 =>
 H40 yl15 = some (true, Rf.lrec r16 .ready none) ∧
 ldL (Heap.put H40 yl15 (Rf.lrec r16 .busy none)) ((b38, 0).1, (b38, 0).2 + 0) fun x43 =>
 c_slices_ContainsFunc_api_Value_api_Value C x43 (.func (.func 46) (List.toArray []) (List.toArray []) : Value) (fun r45 H46 =>
 ift r45
 (st (b1, 0) (slv Sl.nil) (fun H48 =>
 st (b3, 0) (.int .i64 4) (fun H49 =>
 H49 yl15 = some (true, Rf.lrec r16 .busy none) ∧ K19 false (Heap.put H49 yl15 (Rf.lrec r16 .done (some .ret)))) H48) H46)
 (jn (α := Unit) (fun x51 H52 =>
 dr H52 fun Hs60 =>
 ldL Hs60 (b5, 0) fun x62 =>
 ldL Hs60 ((b38, 0).1, (b38, 0).2 + 0) fun x64 =>
 ldI Hs60 .i64 ((b38, 0).1, (b38, 0).2 + 1) fun x66 =>
 callU Tryz.prog C u13 [.int .i64 x66] H52 (fun v H70 => ∃ (r69 : Int), v = .int .i64 r69 ∧
 Heap.le Hs60 H70 ∧
 nw ((T_zset_Entry.c (⟨x64, r69⟩ : T_zset_Entry)) ++ []) (fun b72 H73 =>
 Heap.le Hs60 H73 ∧
 apS (T_zset_Entry.c T_zset_Entry.zero) 32 x62 (Sl.of (some (b72, 0)) 1 1) (fun r75 H76 =>
 Heap.le Hs60 H76 ∧
 st (b5, 0) (slv r75) (fun H77 =>
 H77 yl15 = some (true, Rf.lrec r16 .busy none) ∧ K19 true (Heap.put H77 yl15 (Rf.lrec r16 .ready none))) H76) H73) H70))
 (fun J50 => ldI H46 .i64 ((b38, 0).1, (b38, 0).2 + 1) fun x54 =>
 c_zset_out C x54 (fun r56 H57 =>
 ift r56
 (st (b7, 0) (.int .i64 80) (fun H59 =>
 J50 () H59) H57)
 (J50 () H57)) H46))) (Heap.put H40 yl15 (Rf.lrec r16 .busy none))) H39) H20)
 (fun D14 H227 =>
 ldI H227 .i64 (b7, 0) fun x84 =>
 ift ((x84 : Int) != 0)
 (dr H227 fun Hs87 =>
 (ldI H227 .i64 (b7, 0) fun x90 =>
 Heap.le Hs87 H227 ∧
 st (b1, 0) (slv Sl.nil) (fun H93 =>
 Heap.le Hs87 H93 ∧
 st (b3, 0) (.int .i64 x90) (fun H94 =>
 Rf.mk1 H94 D14 (fun Hm95 =>
 ldL Hm95 (b1, 0) fun x99 => ldI Hm95 .i64 (b3, 0) fun x101 =>
 K x99 x101 Hm95)) H93) H227) ∧
 (st (b1, 0) (slv Sl.nil) (fun H104 =>
 Heap.le Hs87 H104 ∧
 ldI H104 .i64 (b7, 0) fun x106 =>
 Heap.le Hs87 H104 ∧
 st (b3, 0) (.int .i64 x106) (fun H108 =>
 Rf.mk1 H108 D14 (fun Hm109 =>
 ldL Hm109 (b1, 0) fun x113 => ldI Hm109 .i64 (b3, 0) fun x115 =>
 K x113 x115 Hm109)) H104) H227))
 (ldL H227 (b5, 0) fun x117 =>
 c_slices_SortStableFunc_zset_Entry_zset_Entry C x117 (.func (.func 49) (List.toArray []) (List.toArray []) : Value) (fun H119 =>
 lp (α := Sl) Sl.nil H119 (fun x120 J121 H122 =>
 ldL H122 (b5, 0) fun x123 =>
 ift (decide (((Sl.len x123 : Int) : Int) > 0))
 (lp (α := Int × Int) (0, 0) H122 (fun x126 J127 H128 =>
 jn (α := Bool) (fun x130 H131 =>
 ift x130
 (ldL H131 (b5, 0) fun x160 =>
 ixa x160 x126.1 fun p162 =>
 ldI H131 .i64 ((p162.1, p162.2 + (x126.1 : Int).toNat * 2).1, (p162.1, p162.2 + (x126.1 : Int).toNat * 2).2 + 1) fun x167 =>
 J127 ((w .i64 (x126.1 + 1)), (w .i64 (x126.2 + x167))) H131)
 (c_zset_out C x126.2 (fun r169 H170 =>
 ift r169
 (st (b1, 0) (slv Sl.nil) (fun H172 =>
 st (b3, 0) (.int .i64 80) (fun H173 =>
 Rf.mk1 H173 D14 (fun Hm174 =>
 ldL Hm174 (b1, 0) fun x178 => ldI Hm174 .i64 (b3, 0) fun x180 =>
 K x178 x180 Hm174)) H172) H170)
 (jn (α := Sl) (fun x183 H184 =>
 ldL H184 (b5, 0) fun x200 =>
 slL x200 x126.1 (Sl.len x200 : Int) (Sl.cap x200 : Int) 2 fun t202 =>
 st (b5, 0) (slv t202) (fun H208 =>
 J121 x183 H208) H184)
 (fun J182 => ift ((x126.2 : Int) != 0)
 (ldL H170 (b5, 0) fun x187 =>
 ixa x187 0 fun p189 =>
 ldL H170 ((p189.1, p189.2 + (0 : Int).toNat * 2).1, (p189.1, p189.2 + (0 : Int).toNat * 2).2 + 0) fun x194 =>
 c_zset_own C x194 (fun r196 H197 =>
 apd (T_zset_Entry.c T_zset_Entry.zero) 32 x120 ((T_zset_Entry.c (⟨r196, x126.2⟩ : T_zset_Entry)) ++ []) 1 (fun r198 H199 =>
 J182 r198 H199) H197) H170)
 (J182 x120 H170)))) H131))
 (fun J129 => dr H128 fun Hs133 =>
 ldL Hs133 (b5, 0) fun x135 =>
 ift (decide ((x126.1 : Int) < (Sl.len x135 : Int)))
 (ldL Hs133 (b5, 0) fun x138 =>
 ixa x138 0 fun p140 =>
 ldL Hs133 ((p140.1, p140.2 + (0 : Int).toNat * 2).1, (p140.1, p140.2 + (0 : Int).toNat * 2).2 + 0) fun x145 =>
 ldL Hs133 (b5, 0) fun x147 =>
 ixa x147 x126.1 fun p149 =>
 ldL Hs133 ((p149.1, p149.2 + (x126.1 : Int).toNat * 2).1, (p149.1, p149.2 + (x126.1 : Int).toNat * 2).2 + 0) fun x154 =>
 c_value_CmpRows C x145 x154 (fun r157 H158 =>
 Heap.le Hs133 H158 ∧
 J129 ((r157 : Int) == 0) H158) H128)
 (J129 false H128))))
 (st (b1, 0) (slv x120) (fun H209 =>
 st (b3, 0) (.int .i64 0) (fun H210 =>
 Rf.mk1 H210 D14 (fun Hm211 =>
 ldL Hm211 (b1, 0) fun x215 => ldI Hm211 .i64 (b3, 0) fun x217 =>
 K x215 x217 Hm211)) H209) H122))) H227))
 (fun D14 H228 =>
 Rf.mk1 H228 D14 (fun Hm219 =>
 ldL Hm219 (b1, 0) fun x223 => ldI Hm219 .i64 (b3, 0) fun x225 =>
 K x223 x225 Hm219))) H9) H8) H6) H4) H2) H
theorem ad_zset_sums (C : Ctx) (p_parts : Sl) (K : Sl → Int → Heap → Prop) (H : Heap) (h : sh_zset_sums C p_parts K H) : c_zset_sums C p_parts K H := by
 refine Rf.Spec.enterI Tryz.func26 rfl Tryz.ntmps26 rfl ?_
 refine Rf.GI.sub [(0, slv p_parts)] ⟨rfl, trivial⟩ ?_
 refine Rf.GI.seq ?_
 refine Rf.GI.region (fun _ _ h => h) rfl ?_
 refine GL.alloc (cs := [slv Sl.nil]) h trivial rfl rfl rfl ?_
 intro b1 H2 h
 refine GL.alloc (cs := [.int .i64 0]) h trivial rfl rfl rfl ?_
 intro b3 H4 h
 refine Rf.GI.nil ?_
 refine Rf.GI.seq ?_
 refine Rf.GI.region (fun _ _ h => h) rfl ?_
 refine GL.alloc (cs := [slv Sl.nil]) h trivial rfl rfl rfl ?_
 intro b5 H6 h
 refine Rf.GI.nil ?_
 refine Rf.GI.seq ?_
 refine Rf.GI.region (fun _ _ h => h) rfl ?_
 refine GL.alloc (cs := [.int .i64 0]) h trivial rfl rfl rfl ?_
 intro b7 H8 h
 refine GL.store (p := (b7, 0)) (v := .int .i64 0) h trivial rfl rfl rfl rfl ?_
 intro H9 h
 refine Rf.GI.nil ?_
 refine Rf.GI.seq ?_
 refine Rf.GI.seq ?_
 refine Rf.GI.region (fun _ _ h => h) rfl ?_
 refine GL.val trivial rfl (OV.move (v := slv p_parts) rfl) ?_
 refine GL.call h trivial rfl ok_zset_each (vs := [slv p_parts]) rfl ?_
 rintro _ H11 ⟨r10, rfl, h⟩
 refine Rf.GI.nil ?_
 refine Rf.GI.block ?_
 obtain ⟨gf22, xb23, hv24, hok25, h⟩ := h
 refine Rf.GI.rangeFunc (gf := gf22) (xb := xb23) (congrArg some hv24) hok25 ?_
 intro D14 yl15 r16 hD26 hyl27 hne28 hr18 hra29 hrb30 hfr31
 obtain ⟨Y17, hY32, h⟩ := h D14 yl15 r16 hD26 hyl27 hne28
 have hyy36 : Rf.YldS Tryz.prog C yl15 Y17 := by
  refine Rf.YldS.rounds hfr31 (by rw [hr18]; rfl) ?_
  intro us33 K19 H20 hz37
  obtain ⟨q34, q35, h⟩ := hY32 us33 K19 H20 hz37
  refine ⟨q34, by rw [hr18]; exact q35, ?_⟩
  obtain ⟨u12, u13, rfl, h⟩ := h
  rw [hr18, hra29]
  refine Rf.GI.sub [(2, pv (some (b1, 0))), (3, pv (some (b3, 0))), (4, pv (some (b5, 0))), (5, pv (some (b7, 0))), (13, .agg (T_zset_Entry.c u12).toArray), (14, u13)] ⟨rfl, rfl, rfl, rfl, rfl, rfl, trivial⟩ ?_
  refine Rf.GI.seq ?_
  refine Rf.GI.region (fun _ _ h => h) rfl ?_
  refine GL.alloc (cs := T_zset_Entry.c T_zset_Entry.zero) h trivial rfl rfl rfl ?_
  intro b38 H39 h
  refine GL.storeT (p := (b38, 0)) (vs := T_zset_Entry.c u12) h trivial rfl rfl rfl rfl ?_
  intro H40 h
  refine Rf.GI.nil ?_
  refine Rf.GI.region (fun _ _ h => h) rfl ?_
  refine GL.val trivial rfl (OV.assign (v := u13) rfl) ?_
  obtain ⟨q41, h⟩ := h
  refine Rf.RA.mk q41 ?_
  rw [hrb30]
  refine Rf.GI.block ?_
  refine Rf.GI.seq ?_
  refine Rf.GI.seq ?_
  refine Rf.GI.region (fun _ _ h => h) rfl ?_
  refine GL.val trivial rfl (OV.fieldAddr (p := (b38, 0)) rfl rfl) ?_
  obtain ⟨x43, hr44, h⟩ := h
  refine GL.val trivial rfl (OV.load (p := ((b38, 0).1, (b38, 0).2 + 0)) rfl rfl hr44) ?_
  refine GL.call h trivial rfl ok_slices_ContainsFunc_api_Value_api_Value (vs := [slv x43, .func (.func 46) (List.toArray []) (List.toArray [])]) rfl ?_
  rintro _ H46 ⟨r45, rfl, h⟩
  refine Rf.GI.nil ?_
  refine Rf.GI.cond (b := r45) rfl (fun hc47 => ?_) (fun hc47 => ?_)
  ·replace h := And.left h hc47
   refine Rf.GI.seq ?_
   refine Rf.GI.region (fun _ _ h => h) rfl ?_
   refine GL.store (p := (b1, 0)) (v := slv Sl.nil) h trivial rfl rfl rfl rfl ?_
   intro H48 h
   refine GL.store (p := (b3, 0)) (v := .int .i64 4) h trivial rfl rfl rfl rfl ?_
   intro H49 h
   refine Rf.GI.nil ?_
   exact Rf.GI.ret (fun _ _ hf hs => ⟨_, hs, h⟩)
  ·replace h := And.right h hc47
   refine Rf.GI.skip ?_
   obtain ⟨J50, h, hR53⟩ := h
   refine Rf.GI.join (α := Unit) J50 (fun _ => [(2, pv (some (b1, 0))), (3, pv (some (b3, 0))), (4, pv (some (b5, 0))), (6, pv (some (b38, 0))), (7, u13)]) ?_ ?_
   ·skip
    refine Rf.GI.seq ?_
    refine Rf.GI.region (fun _ _ h => h) rfl ?_
    refine GL.val trivial rfl (OV.fieldAddr (p := (b38, 0)) rfl rfl) ?_
    obtain ⟨x54, hr55, h⟩ := h
    refine GL.val trivial rfl (OV.load (p := ((b38, 0).1, (b38, 0).2 + 1)) rfl rfl hr55) ?_
    refine GL.call h trivial rfl ok_zset_out (vs := [.int .i64 x54]) rfl ?_
    rintro _ H57 ⟨r56, rfl, h⟩
    refine Rf.GI.nil ?_
    refine Rf.GI.cond (b := r56) rfl (fun hc58 => ?_) (fun hc58 => ?_)
    ·replace h := And.left h hc58
     refine Rf.GI.region (fun _ _ h => h) rfl ?_
     refine GL.store (p := (b7, 0)) (v := .int .i64 80) h trivial rfl rfl rfl rfl ?_
     intro H59 h
     exact GL.jump (fun _ _ h => h) () h ⟨rfl, rfl, rfl, rfl, rfl, trivial⟩
    ·replace h := And.right h hc58
     exact Rf.GI.jump (fun _ _ h => h) () h ⟨rfl, rfl, rfl, rfl, rfl, trivial⟩
   ·intro x51 H52 h
    replace h := hR53 x51 H52 h
    obtain ⟨Hs60, hle61, h⟩ := h
    refine Rf.GI.tail (Hs := Hs60) (fun _ _ h => h) rfl 10 (by kernel_rfl) hle61 (by kernel_rfl) ?_
    obtain ⟨x62, hr63, h⟩ := h
    refine GT.take 0 rfl (by kernel_rfl) (by kernel_rfl) (by kernel_rfl) rfl (fun _ _ _ h => False.elim h) trivial rfl (OV.load (p := (b5, 0)) rfl rfl hr63) ?_
    refine GT.take 1 rfl (by kernel_rfl) (by kernel_rfl) (by kernel_rfl) rfl (fun _ _ _ h => False.elim h) trivial rfl (OV.fieldAddr (p := (b38, 0)) rfl rfl) ?_
    obtain ⟨x64, hr65, h⟩ := h
    refine GT.take 2 rfl (by kernel_rfl) (by kernel_rfl) (by kernel_rfl) rfl (fun _ _ _ h => False.elim h) trivial rfl (OV.load (p := ((b38, 0).1, (b38, 0).2 + 0)) rfl rfl hr65) ?_
    refine GT.take 3 rfl (by kernel_rfl) (by kernel_rfl) (by kernel_rfl) rfl (fun _ _ _ h => False.elim h) trivial rfl (OV.move (v := u13) rfl) ?_
    refine GT.take 4 rfl (by kernel_rfl) (by kernel_rfl) (by kernel_rfl) rfl (fun _ _ _ h => False.elim h) trivial rfl (OV.fieldAddr (p := (b38, 0)) rfl rfl) ?_
    obtain ⟨x66, hr67, h⟩ := h
    refine GT.take 5 rfl (by kernel_rfl) (by kernel_rfl) (by kernel_rfl) rfl (fun _ _ _ h => False.elim h) trivial rfl (OV.load (p := ((b38, 0).1, (b38, 0).2 + 1)) rfl rfl hr67) ?_
    refine GT.eff 6 rfl (by kernel_rfl) rfl ?_
    refine GL.callU (xv := u13) (vs := [.int .i64 x66]) h trivial rfl rfl rfl ?_
    rintro _ H70 ⟨r69, rfl, h⟩
    obtain ⟨hle68, h⟩ := h
    refine GT.back hle68 ?_
    refine GT.take 7 rfl (by kernel_rfl) (by kernel_rfl) (by kernel_rfl) rfl (fun _ _ _ h => False.elim h) trivial rfl (OV.build (vs := [(0, slv x64), (1, .int .i64 r69)]) (v := .agg (T_zset_Entry.c (⟨x64, r69⟩ : T_zset_Entry)).toArray) rfl (fun _ => by kernel_rfl)) ?_
    refine GT.eff 8 rfl (by kernel_rfl) rfl ?_
    refine GL.buildSlice (cs := (T_zset_Entry.c (⟨x64, r69⟩ : T_zset_Entry)) ++ []) h trivial rfl (vs := [(0, .agg (T_zset_Entry.c (⟨x64, r69⟩ : T_zset_Entry)).toArray)]) rfl ⟨43, fun _ => by kernel_rfl⟩ ?_
    intro b72 H73 h
    obtain ⟨hle71, h⟩ := h
    refine GT.back hle71 ?_
    refine GT.eff 9 rfl (by kernel_rfl) rfl ?_
    refine GL.appendS (s := x62) (s2 := (Sl.of (some (b72, 0)) 1 1)) (zc := T_zset_Entry.c T_zset_Entry.zero) (bytes := 32) h trivial rfl rfl rfl ⟨⟨_, _, _, rfl, rfl, rfl, rfl, rfl, rfl⟩⟩ rfl ?_
    intro r75 H76 h
    obtain ⟨hle74, h⟩ := h
    refine GT.back hle74 ?_
    refine GT.done (by kernel_rfl) ?_
    show GL _ _ _ _ _ [_] _ _
    refine GL.store (p := (b5, 0)) (v := slv r75) h trivial rfl rfl rfl rfl ?_
    intro H77 h
    exact GL.ends (fun _ _ hf hs => ⟨_, hs, h⟩)
 refine Spec.mono (h hyy36) fun u78 H79 h => ?_
 obtain ⟨st80, pend81, k82, k83, ⟨rfl, h⟩ | ⟨rfl, h⟩⟩ := h
 ·refine Rf.RK.nrm (P := Tryz.prog) k82 k83 ?_
  refine Rf.GI.nil_to (fun _ _ h => h) ?_
  refine Rf.GI.seq ?_
  refine Rf.GI.seq ?_
  refine Rf.GI.region (fun _ _ h => h) rfl ?_
  obtain ⟨x84, hr85, h⟩ := h
  refine GL.val trivial rfl (OV.load (p := (b7, 0)) rfl rfl hr85) ?_
  refine GL.val trivial rfl (OV.ibin (v := .bool ((x84 : Int) != 0)) rfl rfl rfl) ?_
  refine Rf.GI.nil ?_
  refine Rf.GI.cond (b := (x84 : Int) != 0) rfl (fun hc86 => ?_) (fun hc86 => ?_)
  ·replace h := And.left h hc86
   refine Rf.GI.seq ?_
   obtain ⟨Hs87, hle88, h⟩ := h
   refine Rf.GI.tail (Hs := Hs87) (fun _ _ h => h) rfl 2 (by kernel_rfl) hle88 (by kernel_rfl) ?_
   refine GT.effs [0, 1] (by kernel_rfl) (by simp) (List.forall_mem_cons.2 ⟨⟨_, rfl, rfl, ?_⟩, List.forall_mem_cons.2 ⟨⟨_, rfl, rfl, ?_⟩, fun _ h => by cases h⟩⟩)
   ·replace h := h.1
    obtain ⟨x90, hr91, h⟩ := h
    refine GL.val trivial rfl (OV.load (p := (b7, 0)) rfl rfl hr91) ?_
    obtain ⟨hle89, h⟩ := h
    refine GT.back hle89 ?_
    refine GT.eff 1 rfl (by kernel_rfl) rfl ?_
    refine GL.store (p := (b1, 0)) (v := slv Sl.nil) h trivial rfl rfl rfl rfl ?_
    intro H93 h
    obtain ⟨hle92, h⟩ := h
    refine GT.back hle92 ?_
    refine GT.done (by kernel_rfl) ?_
    show GL _ _ _ _ _ [_] _ _
    refine GL.store (p := (b3, 0)) (v := .int .i64 x90) h trivial rfl rfl rfl rfl ?_
    intro H94 h
    refine Rf.GI.nil ?_
    obtain ⟨Hm95, hle96, h97, hd98, h⟩ := h
    refine Rf.GI.ret (fun _ _ hf hs => ?_)
    refine Rf.post_mark1 hf hs hle96 h97 hd98 ?_
    obtain ⟨x99, hr100, h⟩ := h
    obtain ⟨x101, hr102, h⟩ := h
    exact (fun _ _ hf hs => post_res2 rfl (RV.cell (p := (b1, 0)) rfl rfl hr100) (RV.cell (p := (b3, 0)) rfl rfl hr102) hf hs ⟨x99, x101, rfl, h⟩)
   ·replace h := h.2
    refine GL.store (p := (b1, 0)) (v := slv Sl.nil) h trivial rfl rfl rfl rfl ?_
    intro H104 h
    obtain ⟨hle103, h⟩ := h
    refine GT.back hle103 ?_
    refine GT.eff 0 rfl (by kernel_rfl) rfl ?_
    obtain ⟨x106, hr107, h⟩ := h
    refine GL.val trivial rfl (OV.load (p := (b7, 0)) rfl rfl hr107) ?_
    obtain ⟨hle105, h⟩ := h
    refine GT.back hle105 ?_
    refine GT.done (by kernel_rfl) ?_
    show GL _ _ _ _ _ [_] _ _
    refine GL.store (p := (b3, 0)) (v := .int .i64 x106) h trivial rfl rfl rfl rfl ?_
    intro H108 h
    refine Rf.GI.nil ?_
    obtain ⟨Hm109, hle110, h111, hd112, h⟩ := h
    refine Rf.GI.ret (fun _ _ hf hs => ?_)
    refine Rf.post_mark1 hf hs hle110 h111 hd112 ?_
    obtain ⟨x113, hr114, h⟩ := h
    obtain ⟨x115, hr116, h⟩ := h
    exact (fun _ _ hf hs => post_res2 rfl (RV.cell (p := (b1, 0)) rfl rfl hr114) (RV.cell (p := (b3, 0)) rfl rfl hr116) hf hs ⟨x113, x115, rfl, h⟩)
  ·replace h := And.right h hc86
   refine Rf.GI.skip ?_
   refine Rf.GI.seq ?_
   refine Rf.GI.region (fun _ _ h => h) rfl ?_
   obtain ⟨x117, hr118, h⟩ := h
   refine GL.val trivial rfl (OV.load (p := (b5, 0)) rfl rfl hr118) ?_
   refine GL.call h trivial rfl ok_slices_SortStableFunc_zset_Entry_zset_Entry (vs := [slv x117, .func (.func 49) (List.toArray []) (List.toArray [])]) rfl ?_
   rintro _ H119 ⟨rfl, h⟩
   refine Rf.GI.nil ?_
   refine Rf.GI.seq ?_
   refine Rf.GI.region (fun _ _ h => h) rfl ?_
   refine GL.val trivial rfl (OV.assign (v := slv Sl.nil) rfl) ?_
   refine Rf.GI.nil ?_
   refine Rf.GI.seq ?_
   refine Rf.GI.block ?_
   refine Rf.GI.loop (α := Sl) h (fun x120 => [(8, slv x120), (2, pv (some (b1, 0))), (3, pv (some (b3, 0))), (4, pv (some (b5, 0)))]) ⟨rfl, rfl, rfl, rfl, trivial⟩ ?_
   intro x120 H122 J121 h
   refine Rf.GI.seq ?_
   refine Rf.GI.seq ?_
   refine Rf.GI.region (fun _ _ h => h) rfl ?_
   obtain ⟨x123, hr124, h⟩ := h
   refine GL.val trivial rfl (OV.load (p := (b5, 0)) rfl rfl hr124) ?_
   refine GL.val trivial rfl (OV.lenSl (s := x123) rfl rfl) ?_
   refine GL.val trivial rfl (OV.ibin (v := .bool (decide (((Sl.len x123 : Int) : Int) > 0))) rfl rfl rfl) ?_
   refine Rf.GI.nil ?_
   refine Rf.GI.cond (b := decide (((Sl.len x123 : Int) : Int) > 0)) rfl (fun hc125 => ?_) (fun hc125 => ?_)
   ·replace h := And.left h hc125
    refine Rf.GI.skip ?_
    refine Rf.GI.block ?_
    refine Rf.GI.seq ?_
    refine Rf.GI.region (fun _ _ h => h) rfl ?_
    refine GL.val trivial rfl (OV.assign (v := .int .i64 0) rfl) ?_
    refine GL.val trivial rfl (OV.assign (v := .int .i64 0) rfl) ?_
    refine Rf.GI.nil ?_
    refine Rf.GI.seq ?_
    refine Rf.GI.block ?_
    refine Rf.GI.loop (α := Int × Int) h (fun x126 => [(9, .int .i64 x126.1), (10, .int .i64 x126.2), (2, pv (some (b1, 0))), (3, pv (some (b3, 0))), (4, pv (some (b5, 0))), (8, slv x120)]) ⟨rfl, rfl, rfl, rfl, rfl, rfl, trivial⟩ ?_
    intro x126 H128 J127 h
    refine Rf.GI.seq ?_
    refine Rf.GI.seq ?_
    obtain ⟨J129, h, hR132⟩ := h
    refine Rf.GI.meet (α := Bool) J129 (fun x130 => [(55, .bool x130), (2, pv (some (b1, 0))), (3, pv (some (b3, 0))), (4, pv (some (b5, 0))), (8, slv x120), (9, .int .i64 x126.1), (10, .int .i64 x126.2)]) ?_ ?_
    ·skip
     obtain ⟨Hs133, hle134, h⟩ := h
     refine Rf.GI.any (Hs := Hs133) (fun _ _ h => h) rfl (by kernel_rfl) hle134 ?_
     refine GA.take 0 rfl (by kernel_rfl) (by kernel_rfl) (by kernel_rfl) (fun _ _ _ h => False.elim h) trivial rfl (OV.move (v := .int .i64 x126.1) rfl) ?_
     obtain ⟨x135, hr136, h⟩ := h
     refine GA.take 1 rfl (by kernel_rfl) (by kernel_rfl) (by kernel_rfl) (fun _ _ _ h => False.elim h) trivial rfl (OV.load (p := (b5, 0)) rfl rfl hr136) ?_
     refine GA.take 2 rfl (by kernel_rfl) (by kernel_rfl) (by kernel_rfl) (fun _ _ _ h => False.elim h) trivial rfl (OV.lenSl (s := x135) rfl rfl) ?_
     refine GA.take 3 rfl (by kernel_rfl) (by kernel_rfl) (by kernel_rfl) (fun _ _ _ h => False.elim h) trivial rfl (OV.ibin (v := .bool (decide ((x126.1 : Int) < (Sl.len x135 : Int)))) rfl rfl rfl) ?_
     refine GA.take 4 rfl (by kernel_rfl) (by kernel_rfl) (by kernel_rfl) (fun _ _ _ h => False.elim h) trivial rfl (OV.move (v := .bool (decide ((x126.1 : Int) < (Sl.len x135 : Int)))) rfl) ?_
     rcases Bool.eq_false_or_eq_true (decide ((x126.1 : Int) < (Sl.len x135 : Int))) with hc137 | hc137
     ·replace h := And.left h hc137
      obtain ⟨x138, hr139, h⟩ := h
      refine GA.take 5 rfl (by kernel_rfl) (by kernel_rfl) (by kernel_rfl) (fun _ _ _ h => False.elim h) ⟨_, _, rfl, rfl, hc137⟩ rfl (OV.load (p := (b5, 0)) rfl rfl hr139) ?_
      obtain ⟨p140, ha141, hb142, hc143, hd144, h⟩ := h
      refine GA.take 6 rfl (by kernel_rfl) (by kernel_rfl) (by kernel_rfl) (fun _ _ _ h => False.elim h) ⟨_, _, rfl, rfl, hc137⟩ rfl (OV.indexAddr (s := x138) rfl rfl rfl rfl ha141 hb142 hc143 hd144) ?_
      refine GA.take 7 rfl (by kernel_rfl) (by kernel_rfl) (by kernel_rfl) (fun _ _ _ h => False.elim h) ⟨_, _, rfl, rfl, hc137⟩ rfl (OV.fieldAddr (p := (p140.1, p140.2 + (0 : Int).toNat * 2)) rfl rfl) ?_
      obtain ⟨x145, hr146, h⟩ := h
      refine GA.take 8 rfl (by kernel_rfl) (by kernel_rfl) (by kernel_rfl) (fun _ _ _ h => False.elim h) ⟨_, _, rfl, rfl, hc137⟩ rfl (OV.load (p := ((p140.1, p140.2 + (0 : Int).toNat * 2).1, (p140.1, p140.2 + (0 : Int).toNat * 2).2 + 0)) rfl rfl hr146) ?_
      obtain ⟨x147, hr148, h⟩ := h
      refine GA.take 9 rfl (by kernel_rfl) (by kernel_rfl) (by kernel_rfl) (fun _ _ _ h => False.elim h) ⟨_, _, rfl, rfl, hc137⟩ rfl (OV.load (p := (b5, 0)) rfl rfl hr148) ?_
      refine GA.take 10 rfl (by kernel_rfl) (by kernel_rfl) (by kernel_rfl) (fun _ _ _ h => False.elim h) ⟨_, _, rfl, rfl, hc137⟩ rfl (OV.move (v := .int .i64 x126.1) rfl) ?_
      obtain ⟨p149, ha150, hb151, hc152, hd153, h⟩ := h
      refine GA.take 11 rfl (by kernel_rfl) (by kernel_rfl) (by kernel_rfl) (fun _ _ _ h => False.elim h) ⟨_, _, rfl, rfl, hc137⟩ rfl (OV.indexAddr (s := x147) rfl rfl rfl rfl ha150 hb151 hc152 hd153) ?_
      refine GA.take 12 rfl (by kernel_rfl) (by kernel_rfl) (by kernel_rfl) (fun _ _ _ h => False.elim h) ⟨_, _, rfl, rfl, hc137⟩ rfl (OV.fieldAddr (p := (p149.1, p149.2 + (x126.1 : Int).toNat * 2)) rfl rfl) ?_
      obtain ⟨x154, hr155, h⟩ := h
      refine GA.take 13 rfl (by kernel_rfl) (by kernel_rfl) (by kernel_rfl) (fun _ _ _ h => False.elim h) ⟨_, _, rfl, rfl, hc137⟩ rfl (OV.load (p := ((p149.1, p149.2 + (x126.1 : Int).toNat * 2).1, (p149.1, p149.2 + (x126.1 : Int).toNat * 2).2 + 0)) rfl rfl hr155) ?_
      refine GA.eff 14 rfl (by kernel_rfl) ?_
      refine GL.call h ⟨_, _, rfl, rfl, hc137⟩ rfl ok_value_CmpRows (vs := [slv x145, slv x154]) rfl ?_
      rintro _ H158 ⟨r157, rfl, h⟩
      obtain ⟨hle156, h⟩ := h
      refine GA.back hle156 ?_
      refine GA.take 15 rfl (by kernel_rfl) (by kernel_rfl) (by kernel_rfl) (fun _ _ _ h => False.elim h) ⟨_, _, rfl, rfl, hc137⟩ rfl (OV.ibin (v := .bool ((r157 : Int) == 0)) rfl rfl rfl) ?_
      refine GA.take 16 rfl (by kernel_rfl) (by kernel_rfl) (by kernel_rfl) (fun _ _ _ h => False.elim h) trivial rfl (OV.pickT (b := decide ((x126.1 : Int) < (Sl.len x135 : Int))) (v := .bool ((r157 : Int) == 0)) rfl hc137 rfl) ?_
      refine GA.done (by kernel_rfl) ?_
      exact GL.jump (fun _ _ h => h) ((r157 : Int) == 0) h ⟨rfl, rfl, rfl, rfl, rfl, rfl, rfl, trivial⟩
     ·replace h := And.right h hc137
      refine GA.skip 5 rfl (by kernel_rfl) (by kernel_rfl) (by kernel_rfl) (fun _ _ _ h => False.elim h) ⟨_, rfl, .inl ⟨_, rfl, hc137⟩⟩ rfl ?_
      refine GA.skip 6 rfl (by kernel_rfl) (by kernel_rfl) (by kernel_rfl) (fun _ _ _ h => False.elim h) ⟨_, rfl, .inl ⟨_, rfl, hc137⟩⟩ rfl ?_
      refine GA.skip 7 rfl (by kernel_rfl) (by kernel_rfl) (by kernel_rfl) (fun _ _ _ h => False.elim h) ⟨_, rfl, .inl ⟨_, rfl, hc137⟩⟩ rfl ?_
      refine GA.skip 8 rfl (by kernel_rfl) (by kernel_rfl) (by kernel_rfl) (fun _ _ _ h => False.elim h) ⟨_, rfl, .inl ⟨_, rfl, hc137⟩⟩ rfl ?_
      refine GA.skip 9 rfl (by kernel_rfl) (by kernel_rfl) (by kernel_rfl) (fun _ _ _ h => False.elim h) ⟨_, rfl, .inl ⟨_, rfl, hc137⟩⟩ rfl ?_
      refine GA.skip 10 rfl (by kernel_rfl) (by kernel_rfl) (by kernel_rfl) (fun _ _ _ h => False.elim h) ⟨_, rfl, .inl ⟨_, rfl, hc137⟩⟩ rfl ?_
      refine GA.skip 11 rfl (by kernel_rfl) (by kernel_rfl) (by kernel_rfl) (fun _ _ _ h => False.elim h) ⟨_, rfl, .inl ⟨_, rfl, hc137⟩⟩ rfl ?_
      refine GA.skip 12 rfl (by kernel_rfl) (by kernel_rfl) (by kernel_rfl) (fun _ _ _ h => False.elim h) ⟨_, rfl, .inl ⟨_, rfl, hc137⟩⟩ rfl ?_
      refine GA.skip 13 rfl (by kernel_rfl) (by kernel_rfl) (by kernel_rfl) (fun _ _ _ h => False.elim h) ⟨_, rfl, .inl ⟨_, rfl, hc137⟩⟩ rfl ?_
      refine GA.skip 14 rfl (by kernel_rfl) (by kernel_rfl) (by kernel_rfl) (fun _ _ _ h => False.elim h) ⟨_, rfl, .inl ⟨_, rfl, hc137⟩⟩ rfl ?_
      refine GA.skip 15 rfl (by kernel_rfl) (by kernel_rfl) (by kernel_rfl) (fun _ _ _ h => False.elim h) ⟨_, rfl, .inl ⟨_, rfl, hc137⟩⟩ rfl ?_
      refine GA.take 16 rfl (by kernel_rfl) (by kernel_rfl) (by kernel_rfl) (fun _ _ _ h => False.elim h) trivial rfl (OV.pickF (b := decide ((x126.1 : Int) < (Sl.len x135 : Int))) (v := .bool false) rfl hc137 rfl) ?_
      refine GA.done (by kernel_rfl) ?_
      exact GL.jump (fun _ _ h => h) false h ⟨rfl, rfl, rfl, rfl, rfl, rfl, rfl, trivial⟩
    ·intro x130 H131 h
     replace h := hR132 x130 H131 h
     refine Rf.GI.nil ?_
     refine Rf.GI.cond (b := x130) rfl (fun hc159 => ?_) (fun hc159 => ?_)
     ·replace h := And.left h hc159
      refine Rf.GI.skip ?_
      refine Rf.GI.block ?_
      refine Rf.GI.seq ?_
      refine Rf.GI.region (fun _ _ h => h) rfl ?_
      refine GL.val trivial rfl (OV.move (v := .int .i64 x126.2) rfl) ?_
      obtain ⟨x160, hr161, h⟩ := h
      refine GL.val trivial rfl (OV.load (p := (b5, 0)) rfl rfl hr161) ?_
      refine GL.val trivial rfl (OV.move (v := .int .i64 x126.1) rfl) ?_
      obtain ⟨p162, ha163, hb164, hc165, hd166, h⟩ := h
      refine GL.val trivial rfl (OV.indexAddr (s := x160) rfl rfl rfl rfl ha163 hb164 hc165 hd166) ?_
      refine GL.val trivial rfl (OV.fieldAddr (p := (p162.1, p162.2 + (x126.1 : Int).toNat * 2)) rfl rfl) ?_
      obtain ⟨x167, hr168, h⟩ := h
      refine GL.val trivial rfl (OV.load (p := ((p162.1, p162.2 + (x126.1 : Int).toNat * 2).1, (p162.1, p162.2 + (x126.1 : Int).toNat * 2).2 + 1)) rfl rfl hr168) ?_
      refine GL.val trivial rfl (OV.ibin (v := .int .i64 (w .i64 (x126.2 + x167))) rfl rfl rfl) ?_
      refine GL.val trivial rfl (OV.assign (v := .int .i64 (w .i64 (x126.2 + x167))) rfl) ?_
      refine Rf.GI.nil ?_
      refine Rf.GI.region (fun _ _ h => h) rfl ?_
      refine GL.val trivial rfl (OV.move (v := .int .i64 x126.1) rfl) ?_
      refine GL.val trivial rfl (OV.ibin (v := .int .i64 (w .i64 (x126.1 + 1))) rfl rfl rfl) ?_
      refine GL.val trivial rfl (OV.assign (v := .int .i64 (w .i64 (x126.1 + 1))) rfl) ?_
      exact GL.jump (fun _ _ h => h) ((w .i64 (x126.1 + 1)), (w .i64 (x126.2 + x167))) h ⟨rfl, rfl, rfl, rfl, rfl, rfl, trivial⟩
     ·replace h := And.right h hc159
      refine Rf.GI.exit_to (fun _ _ h => h) ?_
      refine Rf.GI.seq ?_
      refine Rf.GI.seq ?_
      refine Rf.GI.region (fun _ _ h => h) rfl ?_
      refine GL.val trivial rfl (OV.move (v := .int .i64 x126.2) rfl) ?_
      refine GL.call h trivial rfl ok_zset_out (vs := [.int .i64 x126.2]) rfl ?_
      rintro _ H170 ⟨r169, rfl, h⟩
      refine Rf.GI.nil ?_
      refine Rf.GI.cond (b := r169) rfl (fun hc171 => ?_) (fun hc171 => ?_)
      ·replace h := And.left h hc171
       refine Rf.GI.seq ?_
       refine Rf.GI.region (fun _ _ h => h) rfl ?_
       refine GL.store (p := (b1, 0)) (v := slv Sl.nil) h trivial rfl rfl rfl rfl ?_
       intro H172 h
       refine GL.store (p := (b3, 0)) (v := .int .i64 80) h trivial rfl rfl rfl rfl ?_
       intro H173 h
       refine Rf.GI.nil ?_
       obtain ⟨Hm174, hle175, h176, hd177, h⟩ := h
       refine Rf.GI.ret (fun _ _ hf hs => ?_)
       refine Rf.post_mark1 hf hs hle175 h176 hd177 ?_
       obtain ⟨x178, hr179, h⟩ := h
       obtain ⟨x180, hr181, h⟩ := h
       exact (fun _ _ hf hs => post_res2 rfl (RV.cell (p := (b1, 0)) rfl rfl hr179) (RV.cell (p := (b3, 0)) rfl rfl hr181) hf hs ⟨x178, x180, rfl, h⟩)
      ·replace h := And.right h hc171
       refine Rf.GI.skip ?_
       obtain ⟨J182, h, hR185⟩ := h
       refine Rf.GI.join (α := Sl) J182 (fun x183 => [(8, slv x183), (2, pv (some (b1, 0))), (3, pv (some (b3, 0))), (4, pv (some (b5, 0))), (9, .int .i64 x126.1)]) ?_ ?_
       ·skip
        refine Rf.GI.seq ?_
        refine Rf.GI.region (fun _ _ h => h) rfl ?_
        refine GL.val trivial rfl (OV.move (v := .int .i64 x126.2) rfl) ?_
        refine GL.val trivial rfl (OV.ibin (v := .bool ((x126.2 : Int) != 0)) rfl rfl rfl) ?_
        refine Rf.GI.nil ?_
        refine Rf.GI.cond (b := (x126.2 : Int) != 0) rfl (fun hc186 => ?_) (fun hc186 => ?_)
        ·replace h := And.left h hc186
         refine Rf.GI.region (fun _ _ h => h) rfl ?_
         refine GL.val trivial rfl (OV.move (v := slv x120) rfl) ?_
         obtain ⟨x187, hr188, h⟩ := h
         refine GL.val trivial rfl (OV.load (p := (b5, 0)) rfl rfl hr188) ?_
         obtain ⟨p189, ha190, hb191, hc192, hd193, h⟩ := h
         refine GL.val trivial rfl (OV.indexAddr (s := x187) rfl rfl rfl rfl ha190 hb191 hc192 hd193) ?_
         refine GL.val trivial rfl (OV.fieldAddr (p := (p189.1, p189.2 + (0 : Int).toNat * 2)) rfl rfl) ?_
         obtain ⟨x194, hr195, h⟩ := h
         refine GL.val trivial rfl (OV.load (p := ((p189.1, p189.2 + (0 : Int).toNat * 2).1, (p189.1, p189.2 + (0 : Int).toNat * 2).2 + 0)) rfl rfl hr195) ?_
         refine GL.call h trivial rfl ok_zset_own (vs := [slv x194]) rfl ?_
         rintro _ H197 ⟨r196, rfl, h⟩
         refine GL.val trivial rfl (OV.move (v := .int .i64 x126.2) rfl) ?_
         refine GL.val trivial rfl (OV.build (vs := [(0, slv r196), (1, .int .i64 x126.2)]) (v := .agg (T_zset_Entry.c (⟨r196, x126.2⟩ : T_zset_Entry)).toArray) rfl (fun _ => by kernel_rfl)) ?_
         refine GL.appendLit (s := x120) (ys := (T_zset_Entry.c (⟨r196, x126.2⟩ : T_zset_Entry)) ++ []) (zc := T_zset_Entry.c T_zset_Entry.zero) (bytes := 32) h trivial rfl (fun _ => trivial) rfl (fun _ => rfl) (fun _ => rfl) (vs := [(0, .agg (T_zset_Entry.c (⟨r196, x126.2⟩ : T_zset_Entry)).toArray)]) rfl ⟨43, fun _ => by kernel_rfl⟩ ⟨⟨_, _, _, rfl, rfl, rfl, rfl, rfl, rfl⟩⟩ rfl rfl ?_
         intro _ r198 H199 h
         refine GL.val trivial rfl (OV.assign (v := slv r198) rfl) ?_
         exact GL.jump (fun _ _ h => h) r198 h ⟨rfl, rfl, rfl, rfl, rfl, trivial⟩
        ·replace h := And.right h hc186
         exact Rf.GI.jump (fun _ _ h => h) x120 h ⟨rfl, rfl, rfl, rfl, rfl, trivial⟩
       ·intro x183 H184 h
        replace h := hR185 x183 H184 h
        refine Rf.GI.region (fun _ _ h => h) rfl ?_
        obtain ⟨x200, hr201, h⟩ := h
        refine GL.val trivial rfl (OV.load (p := (b5, 0)) rfl rfl hr201) ?_
        refine GL.val trivial rfl (OV.move (v := .int .i64 x126.1) rfl) ?_
        obtain ⟨h203, h204, h205, h206, t202, h207, h⟩ := h
        refine GL.val trivial rfl (OV.sliceSl (s := x200) h203 h204 h205 h206 h207 rfl rfl rfl rfl rfl rfl rfl (fun h => by first | rfl | cases h) rfl rfl) ?_
        refine GL.store (p := (b5, 0)) (v := slv t202) h trivial rfl rfl rfl rfl ?_
        intro H208 h
        exact GL.jump (fun _ _ h => h) x183 h ⟨rfl, rfl, rfl, rfl, trivial⟩
   ·replace h := And.right h hc125
    refine Rf.GI.exit_to (fun _ _ h => h) ?_
    refine Rf.GI.seq ?_
    refine Rf.GI.region (fun _ _ h => h) rfl ?_
    refine GL.val trivial rfl (OV.move (v := slv x120) rfl) ?_
    refine GL.store (p := (b1, 0)) (v := slv x120) h trivial rfl rfl rfl rfl ?_
    intro H209 h
    refine GL.store (p := (b3, 0)) (v := .int .i64 0) h trivial rfl rfl rfl rfl ?_
    intro H210 h
    refine Rf.GI.nil ?_
    obtain ⟨Hm211, hle212, h213, hd214, h⟩ := h
    refine Rf.GI.ret (fun _ _ hf hs => ?_)
    refine Rf.post_mark1 hf hs hle212 h213 hd214 ?_
    obtain ⟨x215, hr216, h⟩ := h
    obtain ⟨x217, hr218, h⟩ := h
    exact (fun _ _ hf hs => post_res2 rfl (RV.cell (p := (b1, 0)) rfl rfl hr216) (RV.cell (p := (b3, 0)) rfl rfl hr218) hf hs ⟨x215, x217, rfl, h⟩)
 ·refine Rf.RK.ret k82 k83 ?_
  obtain ⟨Hm219, hle220, h221, hd222, h⟩ := h
  refine (fun _ _ hf hs => ?_)
  refine Rf.post_mark1 hf hs hle220 h221 hd222 ?_
  obtain ⟨x223, hr224, h⟩ := h
  obtain ⟨x225, hr226, h⟩ := h
  exact (fun _ _ hf hs => post_res2 rfl (RV.cell (p := (b1, 0)) rfl rfl hr224) (RV.cell (p := (b3, 0)) rfl rfl hr226) hf hs ⟨x223, x225, rfl, h⟩)
def sh_zset_as (C : Ctx) (p_n : Int) (K : Int → Heap → Prop) (H : Heap) : Prop :=
 K p_n H
theorem ad_zset_as (C : Ctx) (p_n : Int) (K : Int → Heap → Prop) (H : Heap) (h : sh_zset_as C p_n K H) : c_zset_as C p_n K H := by
 refine Spec.enter Tryz.func27 rfl Tryz.ntmps27 rfl (GC.sub [(0, .int .i64 p_n)] ⟨rfl, trivial⟩ (Zo (Za (GL.nil (Zo (Zm (Za (GL.nil ?_))))))))
 exact GC.ret (fun _ _ hf hs => post_tmp1 rfl rfl hf hs ⟨p_n, rfl, h⟩)
def sh_ref16_Clean (C : Ctx) (p_l : Sl) (K : Sl → Int → Heap → Prop) (H : Heap) : Prop :=
 c_ref16_Check C p_l (fun r1 H2 =>
 ift ((r1 : Int) != 0)
 (K Sl.nil r1 H2)
 (lp (α := Sl × Int) (Sl.nil, 0) H2 (fun x4 J5 H6 =>
 ift (decide ((x4.2 : Int) < (Sl.len p_l : Int)))
 (jn (α := Sl) (fun x9 H10 =>
 J5 (x9, (w .i64 (x4.2 + 1))) H10)
 (fun J8 => lp (α := Int) 0 H6 (fun x12 J13 H14 =>
 jn (α := Bool) (fun x16 H17 =>
 ift x16
 (J13 (w .i64 (x12 + 1)) H17)
 (jn (α := Bool) (fun x41 H42 =>
 ift x41
 (dr H42 fun Hs65 =>
 ixa x4.1 x12 fun p67 =>
 ldI Hs65 .i64 ((p67.1, p67.2 + (x12 : Int).toNat * 2).1, (p67.1, p67.2 + (x12 : Int).toNat * 2).2 + 1) fun x72 =>
 ixa p_l x4.2 fun p74 =>
 ldI Hs65 .i64 ((p74.1, p74.2 + (x4.2 : Int).toNat * 2).1, (p74.1, p74.2 + (x4.2 : Int).toNat * 2).2 + 1) fun x79 =>
 ixa x4.1 x12 fun p81 =>
 st ((p81.1, p81.2 + (x12 : Int).toNat * 2).1, (p81.1, p81.2 + (x12 : Int).toNat * 2).2 + 1) (.int .i64 (w .i64 (x72 + x79))) (fun H86 =>
 J8 x4.1 H86) H42)
 (apd (T_zset_Entry.c T_zset_Entry.zero) 32 x4.1 ((T_zset_Entry.c (⟨Sl.nil, 0⟩ : T_zset_Entry)) ++ []) 1 (fun r87 H88 =>
 dr H88 fun Hs89 =>
 slL r87 (w .i64 (x12 + 1)) (Sl.len r87 : Int) (Sl.cap r87 : Int) 2 fun t91 =>
 slL r87 x12 (Sl.len r87 : Int) (Sl.cap r87 : Int) 2 fun t97 =>
 cpy 2 t91 t97 (fun r104 H105 =>
 Heap.le Hs89 H105 ∧
 dr H105 fun Hs106 =>
 ixa p_l x4.2 fun p108 =>
 ldL Hs106 ((p108.1, p108.2 + (x4.2 : Int).toNat * 2).1, (p108.1, p108.2 + (x4.2 : Int).toNat * 2).2 + 0) fun x113 =>
 ixa p_l x4.2 fun p115 =>
 ldI Hs106 .i64 ((p115.1, p115.2 + (x4.2 : Int).toNat * 2).1, (p115.1, p115.2 + (x4.2 : Int).toNat * 2).2 + 1) fun x120 =>
 c_ref02_Own C x113 (fun r123 H124 =>
 Heap.le Hs106 H124 ∧
 ixa r87 x12 fun p125 =>
 stT (p125.1, p125.2 + (x12 : Int).toNat * 2) (T_zset_Entry.c (⟨r123, x120⟩ : T_zset_Entry)) (fun H130 =>
 J8 r87 H130) H124) H105) H88) H42))
 (fun J40 => dr H17 fun Hs44 =>
 ift (decide ((x12 : Int) < (Sl.len x4.1 : Int)))
 (ixa x4.1 x12 fun p47 =>
 ldL Hs44 ((p47.1, p47.2 + (x12 : Int).toNat * 2).1, (p47.1, p47.2 + (x12 : Int).toNat * 2).2 + 0) fun x52 =>
 ixa p_l x4.2 fun p54 =>
 ldL Hs44 ((p54.1, p54.2 + (x4.2 : Int).toNat * 2).1, (p54.1, p54.2 + (x4.2 : Int).toNat * 2).2 + 0) fun x59 =>
 c_ref02_CmpRows C x52 x59 (fun r62 H63 =>
 Heap.le Hs44 H63 ∧
 J40 ((r62 : Int) == 0) H63) H17)
 (J40 false H17))))
 (fun J15 => dr H14 fun Hs19 =>
 ift (decide ((x12 : Int) < (Sl.len x4.1 : Int)))
 (ixa x4.1 x12 fun p22 =>
 ldL Hs19 ((p22.1, p22.2 + (x12 : Int).toNat * 2).1, (p22.1, p22.2 + (x12 : Int).toNat * 2).2 + 0) fun x27 =>
 ixa p_l x4.2 fun p29 =>
 ldL Hs19 ((p29.1, p29.2 + (x4.2 : Int).toNat * 2).1, (p29.1, p29.2 + (x4.2 : Int).toNat * 2).2 + 0) fun x34 =>
 c_ref02_CmpRows C x27 x34 (fun r37 H38 =>
 Heap.le Hs19 H38 ∧
 J15 (decide ((r37 : Int) < 0)) H38) H14)
 (J15 false H14)))))
 (lp (α := Sl × Int) (Sl.nil, 0) H6 (fun x131 J132 H133 =>
 ift (decide ((x131.2 : Int) < (Sl.len x4.1 : Int)))
 (jn (α := Sl) (fun x136 H137 =>
 J132 (x136, (w .i64 (x131.2 + 1))) H137)
 (fun J135 => ixa x4.1 x131.2 fun p139 =>
 ldI H133 .i64 ((p139.1, p139.2 + (x131.2 : Int).toNat * 2).1, (p139.1, p139.2 + (x131.2 : Int).toNat * 2).2 + 1) fun x144 =>
 jn (α := Bool) (fun b146 H157 =>
 ift b146
 (K Sl.nil 80 H157)
 (ixa x4.1 x131.2 fun p159 =>
 ldI H157 .i64 ((p159.1, p159.2 + (x131.2 : Int).toNat * 2).1, (p159.1, p159.2 + (x131.2 : Int).toNat * 2).2 + 1) fun x164 =>
 ift ((x164 : Int) != 0)
 (ixa x4.1 x131.2 fun p167 =>
 ldT H157 T_zset_Entry.c (p167.1, p167.2 + (x131.2 : Int).toNat * 2) fun x172 =>
 apd (T_zset_Entry.c T_zset_Entry.zero) 32 x131.1 ((T_zset_Entry.c x172) ++ []) 1 (fun r174 H175 =>
 J135 r174 H175) H157)
 (J135 x131.1 H157)))
 (fun J147 => ift (decide ((x144 : Int) < (-2147483647)))
 (J147 true H133)
 (ixa x4.1 x131.2 fun p150 =>
 ldI H133 .i64 ((p150.1, p150.2 + (x131.2 : Int).toNat * 2).1, (p150.1, p150.2 + (x131.2 : Int).toNat * 2).2 + 1) fun x155 =>
 J147 (decide ((x155 : Int) > 2147483647)) H133))))
 (K x131.1 0 H133)))))) H
theorem ad_ref16_Clean (C : Ctx) (p_l : Sl) (K : Sl → Int → Heap → Prop) (H : Heap) (h : sh_ref16_Clean C p_l K H) : c_ref16_Clean C p_l K H := by
 refine Spec.enter Tryz.func28 rfl Tryz.ntmps28 rfl (GC.sub [(0, slv p_l)] ⟨rfl, trivial⟩ (Zo (Za (Za (GL.nil (Zo (Zm (Zc h ok_ref16_Check ?_))))))))
 rintro _ H2 ⟨r1, rfl, h⟩
 refine Za (GL.nil (GC.seq (Zo (Zm (Zi (.bool ((r1 : Int) != 0)) (GL.nil ?_))))))
 refine Zd (fun hc3 => ?_) fun hc3 => ?_
 replace h := h.1 hc3
 refine Zo (Zm (Za (Za (GL.nil ?_))))
 exact GC.ret (fun _ _ hf hs => post_tmp2 rfl rfl rfl hf hs ⟨Sl.nil, r1, rfl, h⟩)
 replace h := h.2 hc3
 refine GC.skip (Zo (Za (GL.nil (GC.seq (Zo (Za (GL.nil (GC.block (GC.loop (α := Sl × Int) h (fun x4 => [(5, slv x4.1), (6, .int .i64 x4.2), (0, slv p_l)]) ⟨rfl, rfl, rfl, trivial⟩ ?_)))))))))
 intro x4 H6 J5 h
 refine GC.seq (Zo (Zm (Zm (Zq (Zi (.bool (decide ((x4.2 : Int) < (Sl.len p_l : Int)))) (GL.nil ?_))))))
 refine Zd (fun hc7 => ?_) fun hc7 => ?_
 replace h := h.1 hc7
 refine GC.skip ?_
 obtain ⟨J8, h, hR11⟩ := h
 refine GC.join (α := Sl) J8 (fun x9 => [(5, slv x9), (0, slv p_l), (6, .int .i64 x4.2)]) ?_ ?_
 refine GC.block (Zo (Za (GL.nil (GC.seq (GC.block (GC.loop (α := Int) h (fun x12 => [(7, .int .i64 x12), (0, slv p_l), (5, slv x4.1), (6, .int .i64 x4.2)]) ⟨rfl, rfl, rfl, rfl, trivial⟩ ?_))))))
 intro x12 H14 J13 h
 refine GC.seq (GC.seq ?_)
 obtain ⟨J15, h, hR18⟩ := h
 refine GC.meet (α := Bool) J15 (fun x16 => [(38, .bool x16), (0, slv p_l), (5, slv x4.1), (6, .int .i64 x4.2), (7, .int .i64 x12)]) ?_ ?_
 obtain ⟨Hs19, hle20, h⟩ := h
 refine GC.any (Hs := Hs19) (by kernel_rfl) hle20 (Zp 0 rfl (OV.move rfl) (Zp 1 rfl (OV.move rfl) (Zp 2 rfl (OV.lenSl rfl rfl) (Zp 3 rfl (OV.ibin (v := .bool (decide ((x12 : Int) < (Sl.len x4.1 : Int)))) rfl rfl rfl) (Zp 4 rfl (OV.move rfl) ?_)))))
 rcases Zb (decide ((x12 : Int) < (Sl.len x4.1 : Int))) with hc21 | hc21
 replace h := h.1 hc21
 refine Zg 5 rfl ⟨_, _, rfl, rfl, hc21⟩ (OV.move rfl) (Zg 6 rfl ⟨_, _, rfl, rfl, hc21⟩ (OV.move rfl) ?_)
 obtain ⟨p22, ha23, hb24, hc25, hd26, h⟩ := h
 refine Zg 7 rfl ⟨_, _, rfl, rfl, hc21⟩ (OV.indexAddr rfl rfl rfl rfl ha23 hb24 hc25 hd26) (Zg 8 rfl ⟨_, _, rfl, rfl, hc21⟩ (OV.fieldAddr rfl rfl) ?_)
 obtain ⟨x27, hr28, h⟩ := h
 refine Zg 9 rfl ⟨_, _, rfl, rfl, hc21⟩ (OV.load rfl rfl hr28) (Zg 10 rfl ⟨_, _, rfl, rfl, hc21⟩ (OV.move rfl) (Zg 11 rfl ⟨_, _, rfl, rfl, hc21⟩ (OV.move rfl) ?_))
 obtain ⟨p29, ha30, hb31, hc32, hd33, h⟩ := h
 refine Zg 12 rfl ⟨_, _, rfl, rfl, hc21⟩ (OV.indexAddr rfl rfl rfl rfl ha30 hb31 hc32 hd33) (Zg 13 rfl ⟨_, _, rfl, rfl, hc21⟩ (OV.fieldAddr rfl rfl) ?_)
 obtain ⟨x34, hr35, h⟩ := h
 refine Zg 14 rfl ⟨_, _, rfl, rfl, hc21⟩ (OV.load rfl rfl hr35) (GA.eff 15 rfl (by kernel_rfl) (GL.call h ⟨_, _, rfl, rfl, hc21⟩ rfl ok_ref02_CmpRows (vs := [slv x27, slv x34]) rfl ?_))
 rintro _ H38 ⟨r37, rfl, h⟩
 obtain ⟨hle36, h⟩ := h
 refine GA.back hle36 (Zg 16 rfl ⟨_, _, rfl, rfl, hc21⟩ (OV.ibin (v := .bool (decide ((r37 : Int) < 0))) rfl rfl rfl) (Zp 17 rfl (OV.pickT rfl hc21 rfl) (GA.done (by kernel_rfl) ?_)))
 exact GL.jump (fun _ _ h => h) (decide ((r37 : Int) < 0)) h ⟨rfl, rfl, rfl, rfl, rfl, trivial⟩
 replace h := h.2 hc21
 refine Zj 5 rfl ⟨_, rfl, .inl ⟨_, rfl, hc21⟩⟩ (Zj 6 rfl ⟨_, rfl, .inl ⟨_, rfl, hc21⟩⟩ (Zj 7 rfl ⟨_, rfl, .inl ⟨_, rfl, hc21⟩⟩ (Zj 8 rfl ⟨_, rfl, .inl ⟨_, rfl, hc21⟩⟩ (Zj 9 rfl ⟨_, rfl, .inl ⟨_, rfl, hc21⟩⟩ (Zj 10 rfl ⟨_, rfl, .inl ⟨_, rfl, hc21⟩⟩ (Zj 11 rfl ⟨_, rfl, .inl ⟨_, rfl, hc21⟩⟩ (Zj 12 rfl ⟨_, rfl, .inl ⟨_, rfl, hc21⟩⟩ (Zj 13 rfl ⟨_, rfl, .inl ⟨_, rfl, hc21⟩⟩ (Zj 14 rfl ⟨_, rfl, .inl ⟨_, rfl, hc21⟩⟩ (Zj 15 rfl ⟨_, rfl, .inl ⟨_, rfl, hc21⟩⟩ (Zj 16 rfl ⟨_, rfl, .inl ⟨_, rfl, hc21⟩⟩ ?_)))))))))))
 refine Zp 17 rfl (OV.pickF rfl hc21 rfl) (GA.done (by kernel_rfl) ?_)
 exact GL.jump (fun _ _ h => h) false h ⟨rfl, rfl, rfl, rfl, rfl, trivial⟩
 intro x16 H17 h
 replace h := hR18 x16 H17 h
 refine GL.nil ?_
 refine Zd (fun hc39 => ?_) fun hc39 => ?_
 replace h := h.1 hc39
 refine GC.skip (GC.block (GC.region (Zm (Zi (.int .i64 (w .i64 (x12 + 1))) (Za ?_)))))
 exact GL.jump (fun _ _ h => h) (w .i64 (x12 + 1)) h ⟨rfl, rfl, rfl, rfl, trivial⟩
 replace h := h.2 hc39
 refine GC.exit_to (fun _ _ h => h) (GC.seq (GC.seq ?_))
 obtain ⟨J40, h, hR43⟩ := h
 refine GC.meet (α := Bool) J40 (fun x41 => [(58, .bool x41), (0, slv p_l), (5, slv x4.1), (6, .int .i64 x4.2), (7, .int .i64 x12)]) ?_ ?_
 obtain ⟨Hs44, hle45, h⟩ := h
 refine GC.any (Hs := Hs44) (by kernel_rfl) hle45 (Zp 0 rfl (OV.move rfl) (Zp 1 rfl (OV.move rfl) (Zp 2 rfl (OV.lenSl rfl rfl) (Zp 3 rfl (OV.ibin (v := .bool (decide ((x12 : Int) < (Sl.len x4.1 : Int)))) rfl rfl rfl) (Zp 4 rfl (OV.move rfl) ?_)))))
 rcases Zb (decide ((x12 : Int) < (Sl.len x4.1 : Int))) with hc46 | hc46
 replace h := h.1 hc46
 refine Zg 5 rfl ⟨_, _, rfl, rfl, hc46⟩ (OV.move rfl) (Zg 6 rfl ⟨_, _, rfl, rfl, hc46⟩ (OV.move rfl) ?_)
 obtain ⟨p47, ha48, hb49, hc50, hd51, h⟩ := h
 refine Zg 7 rfl ⟨_, _, rfl, rfl, hc46⟩ (OV.indexAddr rfl rfl rfl rfl ha48 hb49 hc50 hd51) (Zg 8 rfl ⟨_, _, rfl, rfl, hc46⟩ (OV.fieldAddr rfl rfl) ?_)
 obtain ⟨x52, hr53, h⟩ := h
 refine Zg 9 rfl ⟨_, _, rfl, rfl, hc46⟩ (OV.load rfl rfl hr53) (Zg 10 rfl ⟨_, _, rfl, rfl, hc46⟩ (OV.move rfl) (Zg 11 rfl ⟨_, _, rfl, rfl, hc46⟩ (OV.move rfl) ?_))
 obtain ⟨p54, ha55, hb56, hc57, hd58, h⟩ := h
 refine Zg 12 rfl ⟨_, _, rfl, rfl, hc46⟩ (OV.indexAddr rfl rfl rfl rfl ha55 hb56 hc57 hd58) (Zg 13 rfl ⟨_, _, rfl, rfl, hc46⟩ (OV.fieldAddr rfl rfl) ?_)
 obtain ⟨x59, hr60, h⟩ := h
 refine Zg 14 rfl ⟨_, _, rfl, rfl, hc46⟩ (OV.load rfl rfl hr60) (GA.eff 15 rfl (by kernel_rfl) (GL.call h ⟨_, _, rfl, rfl, hc46⟩ rfl ok_ref02_CmpRows (vs := [slv x52, slv x59]) rfl ?_))
 rintro _ H63 ⟨r62, rfl, h⟩
 obtain ⟨hle61, h⟩ := h
 refine GA.back hle61 (Zg 16 rfl ⟨_, _, rfl, rfl, hc46⟩ (OV.ibin (v := .bool ((r62 : Int) == 0)) rfl rfl rfl) (Zp 17 rfl (OV.pickT rfl hc46 rfl) (GA.done (by kernel_rfl) ?_)))
 exact GL.jump (fun _ _ h => h) ((r62 : Int) == 0) h ⟨rfl, rfl, rfl, rfl, rfl, trivial⟩
 replace h := h.2 hc46
 refine Zj 5 rfl ⟨_, rfl, .inl ⟨_, rfl, hc46⟩⟩ (Zj 6 rfl ⟨_, rfl, .inl ⟨_, rfl, hc46⟩⟩ (Zj 7 rfl ⟨_, rfl, .inl ⟨_, rfl, hc46⟩⟩ (Zj 8 rfl ⟨_, rfl, .inl ⟨_, rfl, hc46⟩⟩ (Zj 9 rfl ⟨_, rfl, .inl ⟨_, rfl, hc46⟩⟩ (Zj 10 rfl ⟨_, rfl, .inl ⟨_, rfl, hc46⟩⟩ (Zj 11 rfl ⟨_, rfl, .inl ⟨_, rfl, hc46⟩⟩ (Zj 12 rfl ⟨_, rfl, .inl ⟨_, rfl, hc46⟩⟩ (Zj 13 rfl ⟨_, rfl, .inl ⟨_, rfl, hc46⟩⟩ (Zj 14 rfl ⟨_, rfl, .inl ⟨_, rfl, hc46⟩⟩ (Zj 15 rfl ⟨_, rfl, .inl ⟨_, rfl, hc46⟩⟩ (Zj 16 rfl ⟨_, rfl, .inl ⟨_, rfl, hc46⟩⟩ ?_)))))))))))
 refine Zp 17 rfl (OV.pickF rfl hc46 rfl) (GA.done (by kernel_rfl) ?_)
 exact GL.jump (fun _ _ h => h) false h ⟨rfl, rfl, rfl, rfl, rfl, trivial⟩
 intro x41 H42 h
 replace h := hR43 x41 H42 h
 refine GL.nil ?_
 refine Zd (fun hc64 => ?_) fun hc64 => ?_
 replace h := h.1 hc64
 refine GC.seq ?_
 obtain ⟨Hs65, hle66, h⟩ := h
 refine GC.tail (Hs := Hs65) 15 (by kernel_rfl) hle66 (by kernel_rfl) (Zy 0 rfl (OV.move rfl) (Zy 1 rfl (OV.move rfl) (Zy 2 rfl (OV.move rfl) (Zy 3 rfl (OV.move rfl) ?_))))
 obtain ⟨p67, ha68, hb69, hc70, hd71, h⟩ := h
 refine Zy 4 rfl (OV.indexAddr rfl rfl rfl rfl ha68 hb69 hc70 hd71) (Zy 5 rfl (OV.fieldAddr rfl rfl) ?_)
 obtain ⟨x72, hr73, h⟩ := h
 refine Zy 6 rfl (OV.load rfl rfl hr73) (Zy 7 rfl (OV.move rfl) (Zy 8 rfl (OV.move rfl) ?_))
 obtain ⟨p74, ha75, hb76, hc77, hd78, h⟩ := h
 refine Zy 9 rfl (OV.indexAddr rfl rfl rfl rfl ha75 hb76 hc77 hd78) (Zy 10 rfl (OV.fieldAddr rfl rfl) ?_)
 obtain ⟨x79, hr80, h⟩ := h
 refine Zy 11 rfl (OV.load rfl rfl hr80) (Zy 12 rfl (OV.ibin (v := .int .i64 (w .i64 (x72 + x79))) rfl rfl rfl) ?_)
 obtain ⟨p81, ha82, hb83, hc84, hd85, h⟩ := h
 refine Zy 13 rfl (OV.indexAddr rfl rfl rfl rfl ha82 hb83 hc84 hd85) (Zy 14 rfl (OV.fieldAddr rfl rfl) (GT.done (by kernel_rfl) ?_))
 show GL _ _ _ _ _ [_] _ _
 refine GL.store (p := ((p81.1, p81.2 + (x12 : Int).toNat * 2).1, (p81.1, p81.2 + (x12 : Int).toNat * 2).2 + 1)) (v := .int .i64 (w .i64 (x72 + x79))) h trivial rfl rfl rfl rfl ?_
 intro H86 h
 refine GL.nil ?_
 exact GC.exit_jump (fun _ _ h => h) x4.1 h ⟨rfl, rfl, rfl, trivial⟩
 replace h := h.2 hc64
 refine GC.skip (Zo (Zm (Zv (OV.build (vs := []) (v := .agg (T_zset_Entry.c (⟨Sl.nil, 0⟩ : T_zset_Entry)).toArray) rfl (fun _ => by kernel_rfl)) (GL.appendLit (s := x4.1) (ys := (T_zset_Entry.c (⟨Sl.nil, 0⟩ : T_zset_Entry)) ++ []) (zc := T_zset_Entry.c T_zset_Entry.zero) (bytes := 32) h trivial rfl (fun _ => trivial) rfl (fun _ => rfl) (fun _ => rfl) (vs := [(0, .agg (T_zset_Entry.c (⟨Sl.nil, 0⟩ : T_zset_Entry)).toArray)]) rfl ⟨52, fun _ => by kernel_rfl⟩ ⟨⟨_, _, _, rfl, rfl, rfl, rfl, rfl, rfl⟩⟩ rfl rfl ?_))))
 intro _ r87 H88 h
 refine Za (GL.nil (GC.seq ?_))
 obtain ⟨Hs89, hle90, h⟩ := h
 refine GC.any (Hs := Hs89) (by kernel_rfl) hle90 (Zp 0 rfl (OV.move rfl) (Zp 1 rfl (OV.move rfl) (Zp 2 rfl (OV.ibin (v := .int .i64 (w .i64 (x12 + 1))) rfl rfl rfl) ?_)))
 obtain ⟨h92, h93, h94, h95, t91, h96, h⟩ := h
 refine Zp 3 rfl (OV.sliceSl (s := r87) h92 h93 h94 h95 h96 rfl rfl rfl rfl rfl rfl rfl (fun h => by first | rfl | cases h) rfl rfl) (Zp 4 rfl (OV.move rfl) (Zp 5 rfl (OV.move rfl) ?_))
 obtain ⟨h98, h99, h100, h101, t97, h102, h⟩ := h
 refine Zp 6 rfl (OV.sliceSl (s := r87) h98 h99 h100 h101 h102 rfl rfl rfl rfl rfl rfl rfl (fun h => by first | rfl | cases h) rfl rfl) (GA.eff 7 rfl (by kernel_rfl) (GL.copy (s := t91) (s2 := t97) (z := 2) h trivial rfl rfl rfl rfl rfl ?_))
 intro r104 H105 h
 obtain ⟨hle103, h⟩ := h
 refine GA.back hle103 (GA.done (by kernel_rfl) (GL.nil ?_))
 obtain ⟨Hs106, hle107, h⟩ := h
 refine GC.tail (Hs := Hs106) 15 (by kernel_rfl) hle107 (by kernel_rfl) (Zy 0 rfl (OV.move rfl) (Zy 1 rfl (OV.move rfl) (Zy 2 rfl (OV.move rfl) (Zy 3 rfl (OV.move rfl) ?_))))
 obtain ⟨p108, ha109, hb110, hc111, hd112, h⟩ := h
 refine Zy 4 rfl (OV.indexAddr rfl rfl rfl rfl ha109 hb110 hc111 hd112) (Zy 5 rfl (OV.fieldAddr rfl rfl) ?_)
 obtain ⟨x113, hr114, h⟩ := h
 refine Zy 6 rfl (OV.load rfl rfl hr114) (Zy 8 rfl (OV.move rfl) (Zy 9 rfl (OV.move rfl) ?_))
 obtain ⟨p115, ha116, hb117, hc118, hd119, h⟩ := h
 refine Zy 10 rfl (OV.indexAddr rfl rfl rfl rfl ha116 hb117 hc118 hd119) (Zy 11 rfl (OV.fieldAddr rfl rfl) ?_)
 obtain ⟨x120, hr121, h⟩ := h
 refine Zy 12 rfl (OV.load rfl rfl hr121) (GT.eff 7 rfl (by kernel_rfl) rfl (Zc h ok_ref02_Own ?_))
 rintro _ H124 ⟨r123, rfl, h⟩
 obtain ⟨hle122, h⟩ := h
 refine GT.back hle122 (Zy 13 rfl (OV.build (vs := [(0, slv r123), (1, .int .i64 x120)]) (v := .agg (T_zset_Entry.c (⟨r123, x120⟩ : T_zset_Entry)).toArray) rfl (fun _ => by kernel_rfl)) ?_)
 obtain ⟨p125, ha126, hb127, hc128, hd129, h⟩ := h
 refine Zy 14 rfl (OV.indexAddr rfl rfl rfl rfl ha126 hb127 hc128 hd129) (GT.done (by kernel_rfl) ?_)
 show GL _ _ _ _ _ [_] _ _
 refine GL.storeT (p := (p125.1, p125.2 + (x12 : Int).toNat * 2)) (vs := T_zset_Entry.c (⟨r123, x120⟩ : T_zset_Entry)) h trivial rfl rfl rfl rfl ?_
 intro H130 h
 exact GL.jump (fun _ _ h => h) r87 h ⟨rfl, rfl, rfl, trivial⟩
 intro x9 H10 h
 replace h := hR11 x9 H10 h
 refine GC.region (Zm (Zi (.int .i64 (w .i64 (x4.2 + 1))) (Za ?_)))
 exact GL.jump (fun _ _ h => h) (x9, (w .i64 (x4.2 + 1))) h ⟨rfl, rfl, rfl, trivial⟩
 replace h := h.2 hc7
 refine GC.exit_to (fun _ _ h => h) (Zo (Za (GL.nil (GC.seq (Zo (Za (GL.nil (GC.block (GC.loop (α := Sl × Int) h (fun x131 => [(8, slv x131.1), (9, .int .i64 x131.2), (5, slv x4.1)]) ⟨rfl, rfl, rfl, trivial⟩ ?_)))))))))
 intro x131 H133 J132 h
 refine GC.seq (Zo (Zm (Zm (Zq (Zi (.bool (decide ((x131.2 : Int) < (Sl.len x4.1 : Int)))) (GL.nil ?_))))))
 refine Zd (fun hc134 => ?_) fun hc134 => ?_
 replace h := h.1 hc134
 refine GC.skip ?_
 obtain ⟨J135, h, hR138⟩ := h
 refine GC.join (α := Sl) J135 (fun x136 => [(8, slv x136), (5, slv x4.1), (9, .int .i64 x131.2)]) ?_ ?_
 refine GC.block (GC.seq (Zo (Zm (Zm ?_))))
 obtain ⟨p139, ha140, hb141, hc142, hd143, h⟩ := h
 refine Zx ha140 hb141 hc142 hd143 (Zf ?_)
 obtain ⟨x144, hr145, h⟩ := h
 refine Zl hr145 (Zi (.bool (decide ((x144 : Int) < (-2147483647)))) (Zm ?_))
 obtain ⟨J147, h, hR148⟩ := h
 refine GL.cut (α := Bool) 7 J147 (fun b146 => [(120, .bool b146), (5, slv x4.1), (8, slv x131.1), (9, .int .i64 x131.2)]) ?_ ?_
 rcases Zb (decide ((x144 : Int) < (-2147483647))) with hc149 | hc149
 replace h := h.1 hc149
 refine Zk hc149 (Zk hc149 (Zk hc149 (Zk hc149 (Zk hc149 (Zk hc149 (Zt hc149 ?_))))))
 exact GL.jump (fun _ _ h => h) true h ⟨rfl, rfl, rfl, rfl, trivial⟩
 replace h := h.2 hc149
 refine Zu hc149 (OV.move rfl) (Zu hc149 (OV.move rfl) ?_)
 obtain ⟨p150, ha151, hb152, hc153, hd154, h⟩ := h
 refine Zu hc149 (OV.indexAddr rfl rfl rfl rfl ha151 hb152 hc153 hd154) (Zu hc149 (OV.fieldAddr rfl rfl) ?_)
 obtain ⟨x155, hr156, h⟩ := h
 refine Zu hc149 (OV.load rfl rfl hr156) (Zu hc149 (OV.ibin (v := .bool (decide ((x155 : Int) > 2147483647))) rfl rfl rfl) (Zn hc149 ?_))
 exact GL.jump (fun _ _ h => h) (decide ((x155 : Int) > 2147483647)) h ⟨rfl, rfl, rfl, rfl, trivial⟩
 intro b146 H157 h
 replace h := hR148 b146 H157 h
 refine GL.nil ?_
 refine Zd (fun hc158 => ?_) fun hc158 => ?_
 replace h := h.1 hc158
 refine Zo (Za (Za (GL.nil ?_)))
 exact GC.ret (fun _ _ hf hs => post_tmp2 rfl rfl rfl hf hs ⟨Sl.nil, 80, rfl, h⟩)
 replace h := h.2 hc158
 refine GC.skip (Zo (Zm (Zm ?_)))
 obtain ⟨p159, ha160, hb161, hc162, hd163, h⟩ := h
 refine Zx ha160 hb161 hc162 hd163 (Zf ?_)
 obtain ⟨x164, hr165, h⟩ := h
 refine Zl hr165 (Zi (.bool ((x164 : Int) != 0)) (GL.nil ?_))
 refine Zd (fun hc166 => ?_) fun hc166 => ?_
 replace h := h.1 hc166
 refine GC.region (Zm (Zm (Zm ?_)))
 obtain ⟨p167, ha168, hb169, hc170, hd171, h⟩ := h
 refine Zx ha168 hb169 hc170 hd171 ?_
 obtain ⟨x172, hr173, h⟩ := h
 refine Zv (OV.loadT rfl rfl rfl hr173) (GL.appendLit (s := x131.1) (ys := (T_zset_Entry.c x172) ++ []) (zc := T_zset_Entry.c T_zset_Entry.zero) (bytes := 32) h trivial rfl (fun _ => trivial) rfl (fun _ => rfl) (fun _ => rfl) (vs := [(0, .agg (T_zset_Entry.c x172).toArray)]) rfl ⟨52, fun _ => by kernel_rfl⟩ ⟨⟨_, _, _, rfl, rfl, rfl, rfl, rfl, rfl⟩⟩ rfl rfl ?_)
 intro _ r174 H175 h
 refine Za ?_
 exact GL.jump (fun _ _ h => h) r174 h ⟨rfl, rfl, rfl, trivial⟩
 replace h := h.2 hc166
 exact GC.jump (fun _ _ h => h) x131.1 h ⟨rfl, rfl, rfl, trivial⟩
 intro x136 H137 h
 replace h := hR138 x136 H137 h
 refine GC.region (Zm (Zi (.int .i64 (w .i64 (x131.2 + 1))) (Za ?_)))
 exact GL.jump (fun _ _ h => h) (x136, (w .i64 (x131.2 + 1))) h ⟨rfl, rfl, rfl, trivial⟩
 replace h := h.2 hc134
 refine GC.exit_to (fun _ _ h => h) (Zo (Zm (Za (Za (GL.nil ?_)))))
 exact GC.ret (fun _ _ hf hs => post_tmp2 rfl rfl rfl hf hs ⟨x131.1, 0, rfl, h⟩)
def sh_ref16_both (C : Ctx) (p_a : Sl) (p_b : Sl) (p_turn : Bool) (K : Sl → Heap → Prop) (H : Heap) : Prop :=
 nw ([]) (fun b1 H2 =>
 apS (T_zset_Entry.c T_zset_Entry.zero) 32 (Sl.of (some (b1, 0)) 0 0) p_a (fun r3 H4 =>
 lp (α := Sl × Int) (r3, 0) H4 (fun x5 J6 H7 =>
 ift (decide ((x5.2 : Int) < (Sl.len p_b : Int)))
 (ixa p_b x5.2 fun p9 =>
 ldT H7 T_zset_Entry.c (p9.1, p9.2 + (x5.2 : Int).toNat * 2) fun x14 =>
 nw (T_zset_Entry.c T_zset_Entry.zero) (fun b16 H17 =>
 stT (b16, 0) (T_zset_Entry.c x14) (fun H18 =>
 jn (α := Unit) (fun x20 H21 =>
 ldT H21 T_zset_Entry.c (b16, 0) fun x27 =>
 apd (T_zset_Entry.c T_zset_Entry.zero) 32 x5.1 ((T_zset_Entry.c x27) ++ []) 1 (fun r29 H30 =>
 J6 (r29, (w .i64 (x5.2 + 1))) H30) H21)
 (fun J19 => ift p_turn
 (ldI H18 .i64 ((b16, 0).1, (b16, 0).2 + 1) fun x24 =>
 st ((b16, 0).1, (b16, 0).2 + 1) (.int .i64 (w .i64 (0 - x24))) (fun H26 =>
 J19 () H26) H18)
 (J19 () H18))) H17) H7)
 (K x5.1 H7))) H2) H
theorem ad_ref16_both (C : Ctx) (p_a : Sl) (p_b : Sl) (p_turn : Bool) (K : Sl → Heap → Prop) (H : Heap) (h : sh_ref16_both C p_a p_b p_turn K H) : c_ref16_both C p_a p_b p_turn K H := by
 refine Spec.enter Tryz.func29 rfl Tryz.ntmps29 rfl (GC.sub [(0, slv p_a), (1, slv p_b), (2, .bool p_turn)] ⟨rfl, rfl, rfl, trivial⟩ (Zo (Za (GL.nil (Zo (GL.buildSlice (cs := []) h trivial rfl (vs := []) rfl ⟨52, fun _ => by kernel_rfl⟩ ?_))))))
 intro b1 H2 h
 refine Zm (GL.appendS (s := (Sl.of (some (b1, 0)) 0 0)) (s2 := p_a) (zc := T_zset_Entry.c T_zset_Entry.zero) (bytes := 32) h trivial rfl rfl rfl ⟨⟨_, _, _, rfl, rfl, rfl, rfl, rfl, rfl⟩⟩ rfl ?_)
 intro r3 H4 h
 refine Za (GL.nil (GC.seq (Zo (Za (GL.nil (GC.block (GC.loop (α := Sl × Int) h (fun x5 => [(7, slv x5.1), (8, .int .i64 x5.2), (1, slv p_b), (2, .bool p_turn)]) ⟨rfl, rfl, rfl, rfl, trivial⟩ ?_)))))))
 intro x5 H7 J6 h
 refine GC.seq (Zo (Zm (Zm (Zq (Zi (.bool (decide ((x5.2 : Int) < (Sl.len p_b : Int)))) (GL.nil ?_))))))
 refine Zd (fun hc8 => ?_) fun hc8 => ?_
 replace h := h.1 hc8
 refine GC.skip (GC.seq (GC.block (Zo (Zm (Zm ?_)))))
 obtain ⟨p9, ha10, hb11, hc12, hd13, h⟩ := h
 refine Zx ha10 hb11 hc12 hd13 ?_
 obtain ⟨x14, hr15, h⟩ := h
 refine Zv (OV.loadT rfl rfl rfl hr15) (GL.alloc (cs := T_zset_Entry.c T_zset_Entry.zero) h trivial rfl rfl rfl ?_)
 intro b16 H17 h
 refine GL.storeT (p := (b16, 0)) (vs := T_zset_Entry.c x14) h trivial rfl rfl rfl rfl ?_
 intro H18 h
 refine GL.nil ?_
 obtain ⟨J19, h, hR22⟩ := h
 refine GC.join (α := Unit) J19 (fun _ => [(1, slv p_b), (2, .bool p_turn), (7, slv x5.1), (8, .int .i64 x5.2), (9, pv (some (b16, 0)))]) ?_ ?_
 refine Zo (Zm (GL.nil ?_))
 refine Zd (fun hc23 => ?_) fun hc23 => ?_
 replace h := h.1 hc23
 refine GC.region (Zf ?_)
 obtain ⟨x24, hr25, h⟩ := h
 refine Zl hr25 (Zv (OV.iun (v := .int .i64 (w .i64 (0 - x24))) rfl rfl) (Zf (GL.store (p := ((b16, 0).1, (b16, 0).2 + 1)) (v := .int .i64 (w .i64 (0 - x24))) h trivial rfl rfl rfl rfl ?_)))
 intro H26 h
 exact GL.jump (fun _ _ h => h) () h ⟨rfl, rfl, rfl, rfl, rfl, trivial⟩
 replace h := h.2 hc23
 exact GC.jump (fun _ _ h => h) () h ⟨rfl, rfl, rfl, rfl, rfl, trivial⟩
 intro x20 H21 h
 replace h := hR22 x20 H21 h
 refine GC.region (Zm ?_)
 obtain ⟨x27, hr28, h⟩ := h
 refine Zv (OV.loadT rfl rfl rfl hr28) (GL.appendLit (s := x5.1) (ys := (T_zset_Entry.c x27) ++ []) (zc := T_zset_Entry.c T_zset_Entry.zero) (bytes := 32) h trivial rfl (fun _ => trivial) rfl (fun _ => rfl) (fun _ => rfl) (vs := [(0, .agg (T_zset_Entry.c x27).toArray)]) rfl ⟨52, fun _ => by kernel_rfl⟩ ⟨⟨_, _, _, rfl, rfl, rfl, rfl, rfl, rfl⟩⟩ rfl rfl ?_)
 intro _ r29 H30 h
 refine Za (GL.nil_to (fun _ _ h => h) (GC.region (Zm (Zi (.int .i64 (w .i64 (x5.2 + 1))) (Za ?_)))))
 exact GL.jump (fun _ _ h => h) (r29, (w .i64 (x5.2 + 1))) h ⟨rfl, rfl, rfl, rfl, trivial⟩
 replace h := h.2 hc8
 refine GC.exit_to (fun _ _ h => h) (Zo (Zm (Za (GL.nil ?_))))
 exact GC.ret (fun _ _ hf hs => post_tmp1 rfl rfl hf hs ⟨x5.1, rfl, h⟩)
def sh_law16_spoil (C : Ctx) (p_l : Sl) (K : Heap → Prop) (H : Heap) : Prop :=
 lp (α := Int) 0 H (fun x1 J2 H3 =>
 ift (decide ((x1 : Int) < (Sl.len p_l : Int)))
 (ixa p_l x1 fun p5 =>
 ldL H3 ((p5.1, p5.2 + (x1 : Int).toNat * 4).1, (p5.1, p5.2 + (x1 : Int).toNat * 4).2 + 3) fun x10 =>
 c_law16_spoil C x10 (fun H12 =>
 ixa p_l x1 fun p13 =>
 stT (p13.1, p13.2 + (x1 : Int).toNat * 4) (T_api_Value.c (⟨9, 0, [115, 112, 111, 105, 108, 116], Sl.nil⟩ : T_api_Value)) (fun H18 =>
 J2 (w .i64 (x1 + 1)) H18) H12) H3)
 (K H3))
theorem ad_law16_spoil (C : Ctx) (p_l : Sl) (K : Heap → Prop) (H : Heap) (h : sh_law16_spoil C p_l K H) : c_law16_spoil C p_l K H := by
 refine Spec.enter Tryz.func30 rfl Tryz.ntmps30 rfl (GC.sub [(0, slv p_l)] ⟨rfl, trivial⟩ (Zo (Za (GL.nil (GC.block (GC.loop (α := Int) h (fun x1 => [(2, .int .i64 x1), (0, slv p_l)]) ⟨rfl, rfl, trivial⟩ ?_))))))
 intro x1 H3 J2 h
 refine GC.seq (Zo (Zm (Zm (Zq (Zi (.bool (decide ((x1 : Int) < (Sl.len p_l : Int)))) (GL.nil ?_))))))
 refine Zd (fun hc4 => ?_) fun hc4 => ?_
 replace h := h.1 hc4
 refine GC.skip (GC.seq (GC.block (Zo (Zm (Zm ?_)))))
 obtain ⟨p5, ha6, hb7, hc8, hd9, h⟩ := h
 refine Zx ha6 hb7 hc8 hd9 (Zf ?_)
 obtain ⟨x10, hr11, h⟩ := h
 refine Zl hr11 (Zc h ok_law16_spoil ?_)
 rintro _ H12 ⟨rfl, h⟩
 refine GL.nil (GC.region (Zm (Zm (Zv (OV.build (vs := [(0, .int .u8 9), (2, sv [115, 112, 111, 105, 108, 116])]) (v := .agg (T_api_Value.c (⟨9, 0, [115, 112, 111, 105, 108, 116], Sl.nil⟩ : T_api_Value)).toArray) rfl (fun _ => by kernel_rfl)) ?_))))
 obtain ⟨p13, ha14, hb15, hc16, hd17, h⟩ := h
 refine Zx ha14 hb15 hc16 hd17 (GL.storeT (p := (p13.1, p13.2 + (x1 : Int).toNat * 4)) (vs := T_api_Value.c (⟨9, 0, [115, 112, 111, 105, 108, 116], Sl.nil⟩ : T_api_Value)) h trivial rfl rfl rfl rfl ?_)
 intro H18 h
 refine GL.nil_to (fun _ _ h => h) (GC.region (Zm (Zi (.int .i64 (w .i64 (x1 + 1))) (Za ?_))))
 exact GL.jump (fun _ _ h => h) (w .i64 (x1 + 1)) h ⟨rfl, rfl, trivial⟩
 replace h := h.2 hc4
 exact GC.exit_ends (fun _ _ hf hs => post_tmp0 rfl hf hs ⟨rfl, h⟩)
def sh_zset_turn (C : Ctx) (p_n : Int) (K : Int → Heap → Prop) (H : Heap) : Prop :=
 K (w .i64 (0 - p_n)) H
theorem ad_zset_turn (C : Ctx) (p_n : Int) (K : Int → Heap → Prop) (H : Heap) (h : sh_zset_turn C p_n K H) : c_zset_turn C p_n K H := by
 refine Spec.enter Tryz.func31 rfl Tryz.ntmps31 rfl (GC.sub [(0, .int .i64 p_n)] ⟨rfl, trivial⟩ (Zo (Za (GL.nil (Zo (Zm (Zv (OV.iun (v := .int .i64 (w .i64 (0 - p_n))) rfl rfl) (Za (GL.nil ?_)))))))))
 exact GC.ret (fun _ _ hf hs => post_tmp1 rfl rfl hf hs ⟨(w .i64 (0 - p_n)), rfl, h⟩)
def sh_ref02_SameRow (C : Ctx) (p_a : Sl) (p_b : Sl) (K : Bool → Heap → Prop) (H : Heap) : Prop :=
 ift (((Sl.len p_a : Int) : Int) != (Sl.len p_b : Int))
 (K false H)
 (lp (α := Int) 0 H (fun x2 J3 H4 =>
 ift (decide ((x2 : Int) < (Sl.len p_a : Int)))
 (dr H4 fun Hs6 =>
 ixa p_a x2 fun p8 =>
 ldT Hs6 T_api_Value.c (p8.1, p8.2 + (x2 : Int).toNat * 4) fun x13 =>
 ixa p_b x2 fun p15 =>
 ldT Hs6 T_api_Value.c (p15.1, p15.2 + (x2 : Int).toNat * 4) fun x20 =>
 c_ref02_Same C x13 x20 (fun r23 H24 =>
 Heap.le Hs6 H24 ∧
 ift (!r23)
 (K false H24)
 (J3 (w .i64 (x2 + 1)) H24)) H4)
 (K true H4)))
theorem ad_ref02_SameRow (C : Ctx) (p_a : Sl) (p_b : Sl) (K : Bool → Heap → Prop) (H : Heap) (h : sh_ref02_SameRow C p_a p_b K H) : c_ref02_SameRow C p_a p_b K H := by
 refine Spec.enter Tryz.func32 rfl Tryz.ntmps32 rfl (GC.sub [(0, slv p_a), (1, slv p_b)] ⟨rfl, rfl, trivial⟩ (Zo (Za (GL.nil (GC.seq (Zo (Zm (Zq (Zm (Zq (Zi (.bool (((Sl.len p_a : Int) : Int) != (Sl.len p_b : Int))) ?_)))))))))))
 refine GL.nil ?_
 refine Zd (fun hc1 => ?_) fun hc1 => ?_
 replace h := h.1 hc1
 refine Zo (Za (GL.nil ?_))
 exact GC.ret (fun _ _ hf hs => post_tmp1 rfl rfl hf hs ⟨false, rfl, h⟩)
 replace h := h.2 hc1
 refine GC.skip (GC.seq (Zo (Za (GL.nil (GC.block (GC.loop (α := Int) h (fun x2 => [(5, .int .i64 x2), (0, slv p_a), (1, slv p_b)]) ⟨rfl, rfl, rfl, trivial⟩ ?_))))))
 intro x2 H4 J3 h
 refine GC.seq (Zo (Zm (Zm (Zq (Zi (.bool (decide ((x2 : Int) < (Sl.len p_a : Int)))) (GL.nil ?_))))))
 refine Zd (fun hc5 => ?_) fun hc5 => ?_
 replace h := h.1 hc5
 refine GC.skip (GC.seq (GC.block (GC.seq ?_)))
 obtain ⟨Hs6, hle7, h⟩ := h
 refine GC.any (Hs := Hs6) (by kernel_rfl) hle7 (Zp 0 rfl (OV.move rfl) (Zp 1 rfl (OV.move rfl) ?_))
 obtain ⟨p8, ha9, hb10, hc11, hd12, h⟩ := h
 refine Zp 2 rfl (OV.indexAddr rfl rfl rfl rfl ha9 hb10 hc11 hd12) ?_
 obtain ⟨x13, hr14, h⟩ := h
 refine Zp 3 rfl (OV.loadT rfl rfl rfl hr14) (Zp 4 rfl (OV.move rfl) (Zp 5 rfl (OV.move rfl) ?_))
 obtain ⟨p15, ha16, hb17, hc18, hd19, h⟩ := h
 refine Zp 6 rfl (OV.indexAddr rfl rfl rfl rfl ha16 hb17 hc18 hd19) ?_
 obtain ⟨x20, hr21, h⟩ := h
 refine Zp 7 rfl (OV.loadT rfl rfl rfl hr21) (GA.eff 8 rfl (by kernel_rfl) (Zc h ok_ref02_Same ?_))
 rintro _ H24 ⟨r23, rfl, h⟩
 obtain ⟨hle22, h⟩ := h
 refine GA.back hle22 (Zp 9 rfl (OV.not rfl) (GA.done (by kernel_rfl) (GL.nil ?_)))
 refine Zd (fun hc25 => ?_) fun hc25 => ?_
 replace h := h.1 hc25
 refine Zo (Za (GL.nil ?_))
 exact GC.ret (fun _ _ hf hs => post_tmp1 rfl rfl hf hs ⟨false, rfl, h⟩)
 replace h := h.2 hc25
 refine GC.skip_to (fun _ _ h => h) (GC.region (Zm (Zi (.int .i64 (w .i64 (x2 + 1))) (Za ?_))))
 exact GL.jump (fun _ _ h => h) (w .i64 (x2 + 1)) h ⟨rfl, rfl, rfl, trivial⟩
 replace h := h.2 hc5
 refine GC.exit_to (fun _ _ h => h) (Zo (Za (GL.nil ?_)))
 exact GC.ret (fun _ _ hf hs => post_tmp1 rfl rfl hf hs ⟨true, rfl, h⟩)
def sh_value_may (C : Ctx) (p_l : Sl) (K : Bool → Heap → Prop) (H : Heap) : Prop :=
 c_slices_ContainsFunc_api_Value_api_Value C p_l (.func (.func 54) (List.toArray []) (List.toArray []) : Value) (fun r1 H2 =>
 K (!r1) H2) H
theorem ad_value_may (C : Ctx) (p_l : Sl) (K : Bool → Heap → Prop) (H : Heap) (h : sh_value_may C p_l K H) : c_value_may C p_l K H := by
 refine Spec.enter Tryz.func33 rfl Tryz.ntmps33 rfl (GC.sub [(0, slv p_l)] ⟨rfl, trivial⟩ (Zo (Za (GL.nil (Zo (Zm (Zc h ok_slices_ContainsFunc_api_Value_api_Value ?_)))))))
 rintro _ H2 ⟨r1, rfl, h⟩
 refine Zv (OV.not rfl) (Za (GL.nil ?_))
 exact GC.ret (fun _ _ hf hs => post_tmp1 rfl rfl hf hs ⟨(!r1), rfl, h⟩)
def sh_value_last (C : Ctx) (p_a : Bool) (p_b : Bool) (K : Int → Heap → Prop) (H : Heap) : Prop :=
 ift (p_a == p_b)
 (K 0 H)
 (ift p_a
 (K (-1) H)
 (K 1 H))
theorem ad_value_last (C : Ctx) (p_a : Bool) (p_b : Bool) (K : Int → Heap → Prop) (H : Heap) (h : sh_value_last C p_a p_b K H) : c_value_last C p_a p_b K H := by
 refine Spec.enter Tryz.func34 rfl Tryz.ntmps34 rfl (GC.sub [(0, .bool p_a), (1, .bool p_b)] ⟨rfl, rfl, trivial⟩ (Zo (Za (GL.nil (GC.seq (GC.block (Zo (Zm (Zm (Zv (OV.eqlBool rfl rfl rfl) (Za ?_)))))))))))
 refine GL.nil ?_
 refine Zd (fun hc1 => ?_) fun hc1 => ?_
 replace h := h.1 hc1
 refine Zo (Za (GL.nil ?_))
 exact GC.ret (fun _ _ hf hs => post_tmp1 rfl rfl hf hs ⟨0, rfl, h⟩)
 replace h := h.2 hc1
 refine Zo (Zm (Za (GL.nil ?_)))
 refine Zd (fun hc2 => ?_) fun hc2 => ?_
 replace h := h.1 hc2
 refine Zo (Za (GL.nil ?_))
 exact GC.ret (fun _ _ hf hs => post_tmp1 rfl rfl hf hs ⟨(-1), rfl, h⟩)
 replace h := h.2 hc2
 refine GC.skip_to (fun _ _ h => h) (Zo (Za (GL.nil ?_)))
 exact GC.ret (fun _ _ hf hs => post_tmp1 rfl rfl hf hs ⟨1, rfl, h⟩)
def sh_value_rows (C : Ctx) (p_a : Sl) (p_b : Sl) (K : Int → Heap → Prop) (H : Heap) : Prop :=
 c_slices_CompareFunc_api_Value_api_Value_api_Value_api_Value C p_a p_b (.func (.func 56) (List.toArray []) (List.toArray []) : Value) (fun r1 H2 =>
 K r1 H2) H
theorem ad_value_rows (C : Ctx) (p_a : Sl) (p_b : Sl) (K : Int → Heap → Prop) (H : Heap) (h : sh_value_rows C p_a p_b K H) : c_value_rows C p_a p_b K H := by
 refine Spec.enter Tryz.func35 rfl Tryz.ntmps35 rfl (GC.sub [(0, slv p_a), (1, slv p_b)] ⟨rfl, rfl, trivial⟩ (Zo (Za (GL.nil (Zo (Zm (Zm (Zc h ok_slices_CompareFunc_api_Value_api_Value_api_Value_api_Value ?_))))))))
 rintro _ H2 ⟨r1, rfl, h⟩
 refine Za (GL.nil ?_)
 exact GC.ret (fun _ _ hf hs => post_tmp1 rfl rfl hf hs ⟨r1, rfl, h⟩)
end Sx
end

