/-
  Texts of this family, one behind the other: Sh1.
-/
import Derived.Test.YtcachkhmjjomkaaDoorA4
import Derived.Test.YtcachkhmjjomkaaDoorProg
noncomputable section
set_option linter.unusedVariables false
set_option maxRecDepth 100000
namespace Sx
open Go Go.Proofs
structure T_api_Value where
 Kind : Int
 N : Int
 S : Str
 L : Sl
def T_api_Value.c (x : T_api_Value) : List Value := [.int .u8 x.Kind, .int .i64 x.N, sv x.S, slv x.L]
def T_api_Value.zero : T_api_Value := ⟨0, 0, [], Sl.nil⟩
structure T_zset_Entry where
 Row : Sl
 N : Int
def T_zset_Entry.c (x : T_zset_Entry) : List Value := [slv x.Row, .int .i64 x.N]
def T_zset_Entry.zero : T_zset_Entry := ⟨Sl.nil, 0⟩
structure T_zset_part where
 l_ : Sl
 do_ : Value
def T_zset_part.c (x : T_zset_part) : List Value := [slv x.l_, x.do_]
def T_zset_part.zero : T_zset_part := ⟨Sl.nil, .nilFunc⟩
structure T_unicode_utf8_acceptRange where
 lo_ : Int
 hi_ : Int
def T_unicode_utf8_acceptRange.c (x : T_unicode_utf8_acceptRange) : List Value := [.int .u8 x.lo_, .int .u8 x.hi_]
def T_unicode_utf8_acceptRange.zero : T_unicode_utf8_acceptRange := ⟨0, 0⟩
theorem ok_zset_Clean : CallOk Tryd.prog 5 := ⟨⟨_, Tryd.func5, rfl, by decide +kernel⟩⟩
theorem ok_zset_Less : CallOk Tryd.prog 6 := ⟨⟨_, Tryd.func6, rfl, by decide +kernel⟩⟩
theorem ok_law16_awake : CallOk Tryd.prog 7 := ⟨⟨_, Tryd.func7, rfl, by decide +kernel⟩⟩
theorem ok_law16_large : CallOk Tryd.prog 8 := ⟨⟨_, Tryd.func8, rfl, by decide +kernel⟩⟩
theorem ok_law16_small : CallOk Tryd.prog 9 := ⟨⟨_, Tryd.func9, rfl, by decide +kernel⟩⟩
theorem ok_law16_given : CallOk Tryd.prog 10 := ⟨⟨_, Tryd.func10, rfl, by decide +kernel⟩⟩
theorem ok_zset_Add : CallOk Tryd.prog 11 := ⟨⟨_, Tryd.func11, rfl, by decide +kernel⟩⟩
theorem ok_law16_same : CallOk Tryd.prog 12 := ⟨⟨_, Tryd.func12, rfl, by decide +kernel⟩⟩
theorem ok_zset_sums : CallOk Tryd.prog 13 := ⟨⟨_, Tryd.func13, rfl, by decide +kernel⟩⟩
theorem ok_zset_as : CallOk Tryd.prog 14 := ⟨⟨_, Tryd.func14, rfl, by decide +kernel⟩⟩
theorem ok_zset_turn : CallOk Tryd.prog 15 := ⟨⟨_, Tryd.func15, rfl, by decide +kernel⟩⟩
theorem ok_value_CmpRows : CallOk Tryd.prog 17 := ⟨⟨_, Tryd.func17, rfl, by decide +kernel⟩⟩
theorem ok_law16_weight : CallOk Tryd.prog 18 := ⟨⟨_, Tryd.func18, rfl, by decide +kernel⟩⟩
theorem ok_value_Check : CallOk Tryd.prog 19 := ⟨⟨_, Tryd.func19, rfl, by decide +kernel⟩⟩
theorem ok_ref02_Own : CallOk Tryd.prog 20 := ⟨⟨_, Tryd.func20, rfl, by decide +kernel⟩⟩
theorem ok_ref16_Same : CallOk Tryd.prog 21 := ⟨⟨_, Tryd.func21, rfl, by decide +kernel⟩⟩
theorem ok_law16_back : CallOk Tryd.prog 22 := ⟨⟨_, Tryd.func22, rfl, by decide +kernel⟩⟩
theorem ok_zset_each : CallOk Tryd.prog 23 := ⟨⟨_, Tryd.func23, rfl, by decide +kernel⟩⟩
theorem ok_slices_ContainsFunc_api_Value_api_Value : CallOk Tryd.prog 24 := ⟨⟨_, Tryd.func24, rfl, by decide +kernel⟩⟩
theorem ok_zset_sums_1 : CallOk Tryd.prog 25 := ⟨⟨_, Tryd.func25, rfl, by decide +kernel⟩⟩
theorem ok_zset_out : CallOk Tryd.prog 26 := ⟨⟨_, Tryd.func26, rfl, by decide +kernel⟩⟩
theorem ok_slices_SortStableFunc_zset_Entry_zset_Entry : CallOk Tryd.prog 27 := ⟨⟨_, Tryd.func27, rfl, by decide +kernel⟩⟩
theorem ok_zset_sums_2 : CallOk Tryd.prog 28 := ⟨⟨_, Tryd.func28, rfl, by decide +kernel⟩⟩
theorem ok_zset_own : CallOk Tryd.prog 29 := ⟨⟨_, Tryd.func29, rfl, by decide +kernel⟩⟩
theorem ok_value_may : CallOk Tryd.prog 32 := ⟨⟨_, Tryd.func32, rfl, by decide +kernel⟩⟩
theorem ok_value_last : CallOk Tryd.prog 33 := ⟨⟨_, Tryd.func33, rfl, by decide +kernel⟩⟩
theorem ok_value_rows : CallOk Tryd.prog 34 := ⟨⟨_, Tryd.func34, rfl, by decide +kernel⟩⟩
theorem ok_value_depth : CallOk Tryd.prog 35 := ⟨⟨_, Tryd.func35, rfl, by decide +kernel⟩⟩
theorem ok_value_item_look : CallOk Tryd.prog 36 := ⟨⟨_, Tryd.func36, rfl, by decide +kernel⟩⟩
theorem ok_ref02_SameRow : CallOk Tryd.prog 37 := ⟨⟨_, Tryd.func37, rfl, by decide +kernel⟩⟩
theorem ok_zset_each_1 : CallOk Tryd.prog 38 := ⟨⟨_, Tryd.func38, rfl, by decide +kernel⟩⟩
theorem ok_slices_IndexFunc_api_Value_api_Value : CallOk Tryd.prog 39 := ⟨⟨_, Tryd.func39, rfl, by decide +kernel⟩⟩
theorem ok_slices_stableCmpFunc_zset_Entry : CallOk Tryd.prog 40 := ⟨⟨_, Tryd.func40, rfl, by decide +kernel⟩⟩
theorem ok_slices_Clone_api_Value_api_Value : CallOk Tryd.prog 41 := ⟨⟨_, Tryd.func41, rfl, by decide +kernel⟩⟩
theorem ok_value_may_1 : CallOk Tryd.prog 43 := ⟨⟨_, Tryd.func43, rfl, by decide +kernel⟩⟩
theorem ok_slices_CompareFunc_api_Value_api_Value_api_Value_api_Value : CallOk Tryd.prog 44 := ⟨⟨_, Tryd.func44, rfl, by decide +kernel⟩⟩
theorem ok_value_rows_1 : CallOk Tryd.prog 45 := ⟨⟨_, Tryd.func45, rfl, by decide +kernel⟩⟩
theorem ok_value_item_cmp : CallOk Tryd.prog 46 := ⟨⟨_, Tryd.func46, rfl, by decide +kernel⟩⟩
theorem ok_value_number : CallOk Tryd.prog 47 := ⟨⟨_, Tryd.func47, rfl, by decide +kernel⟩⟩
theorem ok_strings_Cut : CallOk Tryd.prog 48 := ⟨⟨_, Tryd.func48, rfl, by decide +kernel⟩⟩
theorem ok_value_name : CallOk Tryd.prog 49 := ⟨⟨_, Tryd.func49, rfl, by decide +kernel⟩⟩
theorem ok_ref02_Same : CallOk Tryd.prog 50 := ⟨⟨_, Tryd.func50, rfl, by decide +kernel⟩⟩
theorem ok_slices_insertionSortCmpFunc_zset_Entry : CallOk Tryd.prog 51 := ⟨⟨_, Tryd.func51, rfl, by decide +kernel⟩⟩
theorem ok_slices_symMergeCmpFunc_zset_Entry : CallOk Tryd.prog 52 := ⟨⟨_, Tryd.func52, rfl, by decide +kernel⟩⟩
theorem ok_cmp_Compare_uint8 : CallOk Tryd.prog 53 := ⟨⟨_, Tryd.func53, rfl, by decide +kernel⟩⟩
theorem ok_value_bigs : CallOk Tryd.prog 54 := ⟨⟨_, Tryd.func54, rfl, by decide +kernel⟩⟩
theorem ok_cmp_Compare_string : CallOk Tryd.prog 55 := ⟨⟨_, Tryd.func55, rfl, by decide +kernel⟩⟩
theorem ok_cmp_Or_int : CallOk Tryd.prog 56 := ⟨⟨_, Tryd.func56, rfl, by decide +kernel⟩⟩
theorem ok_cmp_Compare_int64 : CallOk Tryd.prog 57 := ⟨⟨_, Tryd.func57, rfl, by decide +kernel⟩⟩
theorem ok_strings_TrimPrefix : CallOk Tryd.prog 58 := ⟨⟨_, Tryd.func58, rfl, by decide +kernel⟩⟩
theorem ok_strings_Trim : CallOk Tryd.prog 59 := ⟨⟨_, Tryd.func59, rfl, by decide +kernel⟩⟩
theorem ok_internal_stringslite_Cut : CallOk Tryd.prog 60 := ⟨⟨_, Tryd.func60, rfl, by decide +kernel⟩⟩
theorem ok_slices_rotateCmpFunc_zset_Entry : CallOk Tryd.prog 61 := ⟨⟨_, Tryd.func61, rfl, by decide +kernel⟩⟩
theorem ok_cmp_isNaN_uint8 : CallOk Tryd.prog 62 := ⟨⟨_, Tryd.func62, rfl, by decide +kernel⟩⟩
theorem ok_strings_HasPrefix : CallOk Tryd.prog 63 := ⟨⟨_, Tryd.func63, rfl, by decide +kernel⟩⟩
theorem ok_cmp_Compare_int : CallOk Tryd.prog 64 := ⟨⟨_, Tryd.func64, rfl, by decide +kernel⟩⟩
theorem ok_cmp_isNaN_string : CallOk Tryd.prog 65 := ⟨⟨_, Tryd.func65, rfl, by decide +kernel⟩⟩
theorem ok_cmp_isNaN_int64 : CallOk Tryd.prog 66 := ⟨⟨_, Tryd.func66, rfl, by decide +kernel⟩⟩
theorem ok_internal_stringslite_TrimPrefix : CallOk Tryd.prog 67 := ⟨⟨_, Tryd.func67, rfl, by decide +kernel⟩⟩
theorem ok_strings_trimLeftByte : CallOk Tryd.prog 68 := ⟨⟨_, Tryd.func68, rfl, by decide +kernel⟩⟩
theorem ok_strings_trimRightByte : CallOk Tryd.prog 69 := ⟨⟨_, Tryd.func69, rfl, by decide +kernel⟩⟩
theorem ok_strings_makeASCIISet : CallOk Tryd.prog 70 := ⟨⟨_, Tryd.func70, rfl, by decide +kernel⟩⟩
theorem ok_strings_trimLeftASCII : CallOk Tryd.prog 71 := ⟨⟨_, Tryd.func71, rfl, by decide +kernel⟩⟩
theorem ok_strings_trimRightASCII : CallOk Tryd.prog 72 := ⟨⟨_, Tryd.func72, rfl, by decide +kernel⟩⟩
theorem ok_strings_trimLeftUnicode : CallOk Tryd.prog 73 := ⟨⟨_, Tryd.func73, rfl, by decide +kernel⟩⟩
theorem ok_strings_trimRightUnicode : CallOk Tryd.prog 74 := ⟨⟨_, Tryd.func74, rfl, by decide +kernel⟩⟩
theorem ok_internal_stringslite_Index : CallOk Tryd.prog 75 := ⟨⟨_, Tryd.func75, rfl, by decide +kernel⟩⟩
theorem ok_slices_swapRangeCmpFunc_zset_Entry : CallOk Tryd.prog 76 := ⟨⟨_, Tryd.func76, rfl, by decide +kernel⟩⟩
theorem ok_internal_stringslite_HasPrefix : CallOk Tryd.prog 77 := ⟨⟨_, Tryd.func77, rfl, by decide +kernel⟩⟩
theorem ok_cmp_isNaN_int : CallOk Tryd.prog 78 := ⟨⟨_, Tryd.func78, rfl, by decide +kernel⟩⟩
theorem ok_strings_asciiSet_contains : CallOk Tryd.prog 79 := ⟨⟨_, Tryd.func79, rfl, by decide +kernel⟩⟩
theorem ok_internal_stringslite_IndexByte : CallOk Tryd.prog 83 := ⟨⟨_, Tryd.func83, rfl, by decide +kernel⟩⟩
theorem ok_internal_bytealg_Cutover : CallOk Tryd.prog 85 := ⟨⟨_, Tryd.func85, rfl, by decide +kernel⟩⟩
theorem ok_internal_bytealg_IndexRabinKarp_string : CallOk Tryd.prog 86 := ⟨⟨_, Tryd.func86, rfl, by decide +kernel⟩⟩
theorem ext_internal_bytealg_IndexByteString : ExtOk Tryd.prog 90 Extern.BytealgIndexByte.indexByte := ⟨⟨_, Tryd.func90, by kernel_rfl, by kernel_rfl, by kernel_rfl, by kernel_rfl⟩⟩
def c_law16_ZsetGroup (C : Ctx) (p_x : Sl) (p_y : Sl) (p_z : Sl) (K : Bool → Heap → Prop) (H : Heap) : Prop :=
 Spec Tryd.prog C 4 [slv p_x, slv p_y, slv p_z] H (fun v H2 => ∃ (r0 : Bool), v = .bool r0 ∧ K r0 H2)
theorem c_law16_ZsetGroup.mono {C : Ctx} {p_x : Sl} {p_y : Sl} {p_z : Sl} {K K2 : Bool → Heap → Prop} {H : Heap} (h : c_law16_ZsetGroup C p_x p_y p_z K H) (hk : ∀ r0 H2, K r0 H2 → K2 r0 H2) : c_law16_ZsetGroup C p_x p_y p_z K2 H :=
 Spec.mono h fun _ H2 ⟨r0, hv, h2⟩ => ⟨r0, hv, hk r0 H2 h2⟩
theorem c_law16_ZsetGroup.gh {C : Ctx} {p_x : Sl} {p_y : Sl} {p_z : Sl} {K : Bool → Heap → Prop} {H : Heap} (h : c_law16_ZsetGroup C p_x p_y p_z (fun r0 H2 => ∃ H0, Gh C H2 H0 ∧ K r0 H0) H) : c_law16_ZsetGroup C p_x p_y p_z K H :=
 Spec.gh (Spec.mono h fun _ H2 ⟨r0, hv, H0, hg, hk⟩ => ⟨H0, hg, r0, hv, hk⟩)
def c_zset_Clean (C : Ctx) (p_l : Sl) (K : Sl → Int → Heap → Prop) (H : Heap) : Prop :=
 Spec Tryd.prog C 5 [slv p_l] H (fun v H2 => ∃ (r0 : Sl) (r1 : Int), v = .tuple #[slv r0, .int .i64 r1] ∧ K r0 r1 H2)
theorem c_zset_Clean.mono {C : Ctx} {p_l : Sl} {K K2 : Sl → Int → Heap → Prop} {H : Heap} (h : c_zset_Clean C p_l K H) (hk : ∀ r0 r1 H2, K r0 r1 H2 → K2 r0 r1 H2) : c_zset_Clean C p_l K2 H :=
 Spec.mono h fun _ H2 ⟨r0, r1, hv, h2⟩ => ⟨r0, r1, hv, hk r0 r1 H2 h2⟩
theorem c_zset_Clean.gh {C : Ctx} {p_l : Sl} {K : Sl → Int → Heap → Prop} {H : Heap} (h : c_zset_Clean C p_l (fun r0 r1 H2 => ∃ H0, Gh C H2 H0 ∧ K r0 r1 H0) H) : c_zset_Clean C p_l K H :=
 Spec.gh (Spec.mono h fun _ H2 ⟨r0, r1, hv, H0, hg, hk⟩ => ⟨H0, hg, r0, r1, hv, hk⟩)
def c_zset_Less (C : Ctx) (p_a : Sl) (p_b : Sl) (K : Sl → Int → Heap → Prop) (H : Heap) : Prop :=
 Spec Tryd.prog C 6 [slv p_a, slv p_b] H (fun v H2 => ∃ (r0 : Sl) (r1 : Int), v = .tuple #[slv r0, .int .i64 r1] ∧ K r0 r1 H2)
theorem c_zset_Less.mono {C : Ctx} {p_a : Sl} {p_b : Sl} {K K2 : Sl → Int → Heap → Prop} {H : Heap} (h : c_zset_Less C p_a p_b K H) (hk : ∀ r0 r1 H2, K r0 r1 H2 → K2 r0 r1 H2) : c_zset_Less C p_a p_b K2 H :=
 Spec.mono h fun _ H2 ⟨r0, r1, hv, h2⟩ => ⟨r0, r1, hv, hk r0 r1 H2 h2⟩
theorem c_zset_Less.gh {C : Ctx} {p_a : Sl} {p_b : Sl} {K : Sl → Int → Heap → Prop} {H : Heap} (h : c_zset_Less C p_a p_b (fun r0 r1 H2 => ∃ H0, Gh C H2 H0 ∧ K r0 r1 H0) H) : c_zset_Less C p_a p_b K H :=
 Spec.gh (Spec.mono h fun _ H2 ⟨r0, r1, hv, H0, hg, hk⟩ => ⟨H0, hg, r0, r1, hv, hk⟩)
def c_law16_awake (C : Ctx) (K : Bool → Heap → Prop) (H : Heap) : Prop :=
 Spec Tryd.prog C 7 [] H (fun v H2 => ∃ (r0 : Bool), v = .bool r0 ∧ K r0 H2)
theorem c_law16_awake.mono {C : Ctx} {K K2 : Bool → Heap → Prop} {H : Heap} (h : c_law16_awake C  K H) (hk : ∀ r0 H2, K r0 H2 → K2 r0 H2) : c_law16_awake C  K2 H :=
 Spec.mono h fun _ H2 ⟨r0, hv, h2⟩ => ⟨r0, hv, hk r0 H2 h2⟩
theorem c_law16_awake.gh {C : Ctx} {K : Bool → Heap → Prop} {H : Heap} (h : c_law16_awake C  (fun r0 H2 => ∃ H0, Gh C H2 H0 ∧ K r0 H0) H) : c_law16_awake C  K H :=
 Spec.gh (Spec.mono h fun _ H2 ⟨r0, hv, H0, hg, hk⟩ => ⟨H0, hg, r0, hv, hk⟩)
def c_law16_large (C : Ctx) (p_l : Sl) (K : Bool → Heap → Prop) (H : Heap) : Prop :=
 Spec Tryd.prog C 8 [slv p_l] H (fun v H2 => ∃ (r0 : Bool), v = .bool r0 ∧ K r0 H2)
theorem c_law16_large.mono {C : Ctx} {p_l : Sl} {K K2 : Bool → Heap → Prop} {H : Heap} (h : c_law16_large C p_l K H) (hk : ∀ r0 H2, K r0 H2 → K2 r0 H2) : c_law16_large C p_l K2 H :=
 Spec.mono h fun _ H2 ⟨r0, hv, h2⟩ => ⟨r0, hv, hk r0 H2 h2⟩
theorem c_law16_large.gh {C : Ctx} {p_l : Sl} {K : Bool → Heap → Prop} {H : Heap} (h : c_law16_large C p_l (fun r0 H2 => ∃ H0, Gh C H2 H0 ∧ K r0 H0) H) : c_law16_large C p_l K H :=
 Spec.gh (Spec.mono h fun _ H2 ⟨r0, hv, H0, hg, hk⟩ => ⟨H0, hg, r0, hv, hk⟩)
def c_law16_small (C : Ctx) (p_l : Sl) (K : Bool → Heap → Prop) (H : Heap) : Prop :=
 Spec Tryd.prog C 9 [slv p_l] H (fun v H2 => ∃ (r0 : Bool), v = .bool r0 ∧ K r0 H2)
theorem c_law16_small.mono {C : Ctx} {p_l : Sl} {K K2 : Bool → Heap → Prop} {H : Heap} (h : c_law16_small C p_l K H) (hk : ∀ r0 H2, K r0 H2 → K2 r0 H2) : c_law16_small C p_l K2 H :=
 Spec.mono h fun _ H2 ⟨r0, hv, h2⟩ => ⟨r0, hv, hk r0 H2 h2⟩
theorem c_law16_small.gh {C : Ctx} {p_l : Sl} {K : Bool → Heap → Prop} {H : Heap} (h : c_law16_small C p_l (fun r0 H2 => ∃ H0, Gh C H2 H0 ∧ K r0 H0) H) : c_law16_small C p_l K H :=
 Spec.gh (Spec.mono h fun _ H2 ⟨r0, hv, H0, hg, hk⟩ => ⟨H0, hg, r0, hv, hk⟩)
def c_law16_given (C : Ctx) (p_l : Sl) (K : Sl → Heap → Prop) (H : Heap) : Prop :=
 Spec Tryd.prog C 10 [slv p_l] H (fun v H2 => ∃ (r0 : Sl), v = slv r0 ∧ K r0 H2)
theorem c_law16_given.mono {C : Ctx} {p_l : Sl} {K K2 : Sl → Heap → Prop} {H : Heap} (h : c_law16_given C p_l K H) (hk : ∀ r0 H2, K r0 H2 → K2 r0 H2) : c_law16_given C p_l K2 H :=
 Spec.mono h fun _ H2 ⟨r0, hv, h2⟩ => ⟨r0, hv, hk r0 H2 h2⟩
theorem c_law16_given.gh {C : Ctx} {p_l : Sl} {K : Sl → Heap → Prop} {H : Heap} (h : c_law16_given C p_l (fun r0 H2 => ∃ H0, Gh C H2 H0 ∧ K r0 H0) H) : c_law16_given C p_l K H :=
 Spec.gh (Spec.mono h fun _ H2 ⟨r0, hv, H0, hg, hk⟩ => ⟨H0, hg, r0, hv, hk⟩)
def c_zset_Add (C : Ctx) (p_a : Sl) (p_b : Sl) (K : Sl → Int → Heap → Prop) (H : Heap) : Prop :=
 Spec Tryd.prog C 11 [slv p_a, slv p_b] H (fun v H2 => ∃ (r0 : Sl) (r1 : Int), v = .tuple #[slv r0, .int .i64 r1] ∧ K r0 r1 H2)
theorem c_zset_Add.mono {C : Ctx} {p_a : Sl} {p_b : Sl} {K K2 : Sl → Int → Heap → Prop} {H : Heap} (h : c_zset_Add C p_a p_b K H) (hk : ∀ r0 r1 H2, K r0 r1 H2 → K2 r0 r1 H2) : c_zset_Add C p_a p_b K2 H :=
 Spec.mono h fun _ H2 ⟨r0, r1, hv, h2⟩ => ⟨r0, r1, hv, hk r0 r1 H2 h2⟩
theorem c_zset_Add.gh {C : Ctx} {p_a : Sl} {p_b : Sl} {K : Sl → Int → Heap → Prop} {H : Heap} (h : c_zset_Add C p_a p_b (fun r0 r1 H2 => ∃ H0, Gh C H2 H0 ∧ K r0 r1 H0) H) : c_zset_Add C p_a p_b K H :=
 Spec.gh (Spec.mono h fun _ H2 ⟨r0, r1, hv, H0, hg, hk⟩ => ⟨H0, hg, r0, r1, hv, hk⟩)
def c_law16_same (C : Ctx) (p_a : Sl) (p_e : Int) (p_b : Sl) (p_f : Int) (K : Bool → Heap → Prop) (H : Heap) : Prop :=
 Spec Tryd.prog C 12 [slv p_a, .int .i64 p_e, slv p_b, .int .i64 p_f] H (fun v H2 => ∃ (r0 : Bool), v = .bool r0 ∧ K r0 H2)
theorem c_law16_same.mono {C : Ctx} {p_a : Sl} {p_e : Int} {p_b : Sl} {p_f : Int} {K K2 : Bool → Heap → Prop} {H : Heap} (h : c_law16_same C p_a p_e p_b p_f K H) (hk : ∀ r0 H2, K r0 H2 → K2 r0 H2) : c_law16_same C p_a p_e p_b p_f K2 H :=
 Spec.mono h fun _ H2 ⟨r0, hv, h2⟩ => ⟨r0, hv, hk r0 H2 h2⟩
theorem c_law16_same.gh {C : Ctx} {p_a : Sl} {p_e : Int} {p_b : Sl} {p_f : Int} {K : Bool → Heap → Prop} {H : Heap} (h : c_law16_same C p_a p_e p_b p_f (fun r0 H2 => ∃ H0, Gh C H2 H0 ∧ K r0 H0) H) : c_law16_same C p_a p_e p_b p_f K H :=
 Spec.gh (Spec.mono h fun _ H2 ⟨r0, hv, H0, hg, hk⟩ => ⟨H0, hg, r0, hv, hk⟩)
def c_zset_sums (C : Ctx) (p_parts : Sl) (K : Sl → Int → Heap → Prop) (H : Heap) : Prop :=
 Spec Tryd.prog C 13 [slv p_parts] H (fun v H2 => ∃ (r0 : Sl) (r1 : Int), v = .tuple #[slv r0, .int .i64 r1] ∧ K r0 r1 H2)
theorem c_zset_sums.mono {C : Ctx} {p_parts : Sl} {K K2 : Sl → Int → Heap → Prop} {H : Heap} (h : c_zset_sums C p_parts K H) (hk : ∀ r0 r1 H2, K r0 r1 H2 → K2 r0 r1 H2) : c_zset_sums C p_parts K2 H :=
 Spec.mono h fun _ H2 ⟨r0, r1, hv, h2⟩ => ⟨r0, r1, hv, hk r0 r1 H2 h2⟩
theorem c_zset_sums.gh {C : Ctx} {p_parts : Sl} {K : Sl → Int → Heap → Prop} {H : Heap} (h : c_zset_sums C p_parts (fun r0 r1 H2 => ∃ H0, Gh C H2 H0 ∧ K r0 r1 H0) H) : c_zset_sums C p_parts K H :=
 Spec.gh (Spec.mono h fun _ H2 ⟨r0, r1, hv, H0, hg, hk⟩ => ⟨H0, hg, r0, r1, hv, hk⟩)
def c_zset_as (C : Ctx) (p_n : Int) (K : Int → Heap → Prop) (H : Heap) : Prop :=
 Spec Tryd.prog C 14 [.int .i64 p_n] H (fun v H2 => ∃ (r0 : Int), v = .int .i64 r0 ∧ K r0 H2)
theorem c_zset_as.mono {C : Ctx} {p_n : Int} {K K2 : Int → Heap → Prop} {H : Heap} (h : c_zset_as C p_n K H) (hk : ∀ r0 H2, K r0 H2 → K2 r0 H2) : c_zset_as C p_n K2 H :=
 Spec.mono h fun _ H2 ⟨r0, hv, h2⟩ => ⟨r0, hv, hk r0 H2 h2⟩
theorem c_zset_as.gh {C : Ctx} {p_n : Int} {K : Int → Heap → Prop} {H : Heap} (h : c_zset_as C p_n (fun r0 H2 => ∃ H0, Gh C H2 H0 ∧ K r0 H0) H) : c_zset_as C p_n K H :=
 Spec.gh (Spec.mono h fun _ H2 ⟨r0, hv, H0, hg, hk⟩ => ⟨H0, hg, r0, hv, hk⟩)
def c_zset_turn (C : Ctx) (p_n : Int) (K : Int → Heap → Prop) (H : Heap) : Prop :=
 Spec Tryd.prog C 15 [.int .i64 p_n] H (fun v H2 => ∃ (r0 : Int), v = .int .i64 r0 ∧ K r0 H2)
theorem c_zset_turn.mono {C : Ctx} {p_n : Int} {K K2 : Int → Heap → Prop} {H : Heap} (h : c_zset_turn C p_n K H) (hk : ∀ r0 H2, K r0 H2 → K2 r0 H2) : c_zset_turn C p_n K2 H :=
 Spec.mono h fun _ H2 ⟨r0, hv, h2⟩ => ⟨r0, hv, hk r0 H2 h2⟩
theorem c_zset_turn.gh {C : Ctx} {p_n : Int} {K : Int → Heap → Prop} {H : Heap} (h : c_zset_turn C p_n (fun r0 H2 => ∃ H0, Gh C H2 H0 ∧ K r0 H0) H) : c_zset_turn C p_n K H :=
 Spec.gh (Spec.mono h fun _ H2 ⟨r0, hv, H0, hg, hk⟩ => ⟨H0, hg, r0, hv, hk⟩)
def c_value_CmpRows (C : Ctx) (p_a : Sl) (p_b : Sl) (K : Int → Heap → Prop) (H : Heap) : Prop :=
 Spec Tryd.prog C 17 [slv p_a, slv p_b] H (fun v H2 => ∃ (r0 : Int), v = .int .i64 r0 ∧ K r0 H2)
theorem c_value_CmpRows.mono {C : Ctx} {p_a : Sl} {p_b : Sl} {K K2 : Int → Heap → Prop} {H : Heap} (h : c_value_CmpRows C p_a p_b K H) (hk : ∀ r0 H2, K r0 H2 → K2 r0 H2) : c_value_CmpRows C p_a p_b K2 H :=
 Spec.mono h fun _ H2 ⟨r0, hv, h2⟩ => ⟨r0, hv, hk r0 H2 h2⟩
theorem c_value_CmpRows.gh {C : Ctx} {p_a : Sl} {p_b : Sl} {K : Int → Heap → Prop} {H : Heap} (h : c_value_CmpRows C p_a p_b (fun r0 H2 => ∃ H0, Gh C H2 H0 ∧ K r0 H0) H) : c_value_CmpRows C p_a p_b K H :=
 Spec.gh (Spec.mono h fun _ H2 ⟨r0, hv, H0, hg, hk⟩ => ⟨H0, hg, r0, hv, hk⟩)
def c_law16_weight (C : Ctx) (p_v : T_api_Value) (p_most : Int) (K : Int → Heap → Prop) (H : Heap) : Prop :=
 Spec Tryd.prog C 18 [.agg (T_api_Value.c p_v).toArray, .int .i64 p_most] H (fun v H2 => ∃ (r0 : Int), v = .int .i64 r0 ∧ K r0 H2)
theorem c_law16_weight.mono {C : Ctx} {p_v : T_api_Value} {p_most : Int} {K K2 : Int → Heap → Prop} {H : Heap} (h : c_law16_weight C p_v p_most K H) (hk : ∀ r0 H2, K r0 H2 → K2 r0 H2) : c_law16_weight C p_v p_most K2 H :=
 Spec.mono h fun _ H2 ⟨r0, hv, h2⟩ => ⟨r0, hv, hk r0 H2 h2⟩
theorem c_law16_weight.gh {C : Ctx} {p_v : T_api_Value} {p_most : Int} {K : Int → Heap → Prop} {H : Heap} (h : c_law16_weight C p_v p_most (fun r0 H2 => ∃ H0, Gh C H2 H0 ∧ K r0 H0) H) : c_law16_weight C p_v p_most K H :=
 Spec.gh (Spec.mono h fun _ H2 ⟨r0, hv, H0, hg, hk⟩ => ⟨H0, hg, r0, hv, hk⟩)
def c_value_Check (C : Ctx) (p_v : T_api_Value) (K : Int → Heap → Prop) (H : Heap) : Prop :=
 Spec Tryd.prog C 19 [.agg (T_api_Value.c p_v).toArray] H (fun v H2 => ∃ (r0 : Int), v = .int .i64 r0 ∧ K r0 H2)
theorem c_value_Check.mono {C : Ctx} {p_v : T_api_Value} {K K2 : Int → Heap → Prop} {H : Heap} (h : c_value_Check C p_v K H) (hk : ∀ r0 H2, K r0 H2 → K2 r0 H2) : c_value_Check C p_v K2 H :=
 Spec.mono h fun _ H2 ⟨r0, hv, h2⟩ => ⟨r0, hv, hk r0 H2 h2⟩
theorem c_value_Check.gh {C : Ctx} {p_v : T_api_Value} {K : Int → Heap → Prop} {H : Heap} (h : c_value_Check C p_v (fun r0 H2 => ∃ H0, Gh C H2 H0 ∧ K r0 H0) H) : c_value_Check C p_v K H :=
 Spec.gh (Spec.mono h fun _ H2 ⟨r0, hv, H0, hg, hk⟩ => ⟨H0, hg, r0, hv, hk⟩)
def c_ref02_Own (C : Ctx) (p_l : Sl) (K : Sl → Heap → Prop) (H : Heap) : Prop :=
 Spec Tryd.prog C 20 [slv p_l] H (fun v H2 => ∃ (r0 : Sl), v = slv r0 ∧ K r0 H2)
theorem c_ref02_Own.mono {C : Ctx} {p_l : Sl} {K K2 : Sl → Heap → Prop} {H : Heap} (h : c_ref02_Own C p_l K H) (hk : ∀ r0 H2, K r0 H2 → K2 r0 H2) : c_ref02_Own C p_l K2 H :=
 Spec.mono h fun _ H2 ⟨r0, hv, h2⟩ => ⟨r0, hv, hk r0 H2 h2⟩
theorem c_ref02_Own.gh {C : Ctx} {p_l : Sl} {K : Sl → Heap → Prop} {H : Heap} (h : c_ref02_Own C p_l (fun r0 H2 => ∃ H0, Gh C H2 H0 ∧ K r0 H0) H) : c_ref02_Own C p_l K H :=
 Spec.gh (Spec.mono h fun _ H2 ⟨r0, hv, H0, hg, hk⟩ => ⟨H0, hg, r0, hv, hk⟩)
def c_ref16_Same (C : Ctx) (p_a : Sl) (p_b : Sl) (K : Bool → Heap → Prop) (H : Heap) : Prop :=
 Spec Tryd.prog C 21 [slv p_a, slv p_b] H (fun v H2 => ∃ (r0 : Bool), v = .bool r0 ∧ K r0 H2)
theorem c_ref16_Same.mono {C : Ctx} {p_a : Sl} {p_b : Sl} {K K2 : Bool → Heap → Prop} {H : Heap} (h : c_ref16_Same C p_a p_b K H) (hk : ∀ r0 H2, K r0 H2 → K2 r0 H2) : c_ref16_Same C p_a p_b K2 H :=
 Spec.mono h fun _ H2 ⟨r0, hv, h2⟩ => ⟨r0, hv, hk r0 H2 h2⟩
theorem c_ref16_Same.gh {C : Ctx} {p_a : Sl} {p_b : Sl} {K : Bool → Heap → Prop} {H : Heap} (h : c_ref16_Same C p_a p_b (fun r0 H2 => ∃ H0, Gh C H2 H0 ∧ K r0 H0) H) : c_ref16_Same C p_a p_b K H :=
 Spec.gh (Spec.mono h fun _ H2 ⟨r0, hv, H0, hg, hk⟩ => ⟨H0, hg, r0, hv, hk⟩)
def c_law16_back (C : Ctx) (p_l : Sl) (K : Sl → Heap → Prop) (H : Heap) : Prop :=
 Spec Tryd.prog C 22 [slv p_l] H (fun v H2 => ∃ (r0 : Sl), v = slv r0 ∧ K r0 H2)
theorem c_law16_back.mono {C : Ctx} {p_l : Sl} {K K2 : Sl → Heap → Prop} {H : Heap} (h : c_law16_back C p_l K H) (hk : ∀ r0 H2, K r0 H2 → K2 r0 H2) : c_law16_back C p_l K2 H :=
 Spec.mono h fun _ H2 ⟨r0, hv, h2⟩ => ⟨r0, hv, hk r0 H2 h2⟩
theorem c_law16_back.gh {C : Ctx} {p_l : Sl} {K : Sl → Heap → Prop} {H : Heap} (h : c_law16_back C p_l (fun r0 H2 => ∃ H0, Gh C H2 H0 ∧ K r0 H0) H) : c_law16_back C p_l K H :=
 Spec.gh (Spec.mono h fun _ H2 ⟨r0, hv, H0, hg, hk⟩ => ⟨H0, hg, r0, hv, hk⟩)
def c_zset_each (C : Ctx) (p_parts : Sl) (K : Value → Heap → Prop) (H : Heap) : Prop :=
 Spec Tryd.prog C 23 [slv p_parts] H (fun v H2 => ∃ (r0 : Value), v = r0 ∧ K r0 H2)
theorem c_zset_each.mono {C : Ctx} {p_parts : Sl} {K K2 : Value → Heap → Prop} {H : Heap} (h : c_zset_each C p_parts K H) (hk : ∀ r0 H2, K r0 H2 → K2 r0 H2) : c_zset_each C p_parts K2 H :=
 Spec.mono h fun _ H2 ⟨r0, hv, h2⟩ => ⟨r0, hv, hk r0 H2 h2⟩
theorem c_zset_each.gh {C : Ctx} {p_parts : Sl} {K : Value → Heap → Prop} {H : Heap} (h : c_zset_each C p_parts (fun r0 H2 => ∃ H0, Gh C H2 H0 ∧ K r0 H0) H) : c_zset_each C p_parts K H :=
 Spec.gh (Spec.mono h fun _ H2 ⟨r0, hv, H0, hg, hk⟩ => ⟨H0, hg, r0, hv, hk⟩)
def c_slices_ContainsFunc_api_Value_api_Value (C : Ctx) (p_s : Sl) (p_f : Value) (K : Bool → Heap → Prop) (H : Heap) : Prop :=
 Spec Tryd.prog C 24 [slv p_s, p_f] H (fun v H2 => ∃ (r0 : Bool), v = .bool r0 ∧ K r0 H2)
theorem c_slices_ContainsFunc_api_Value_api_Value.mono {C : Ctx} {p_s : Sl} {p_f : Value} {K K2 : Bool → Heap → Prop} {H : Heap} (h : c_slices_ContainsFunc_api_Value_api_Value C p_s p_f K H) (hk : ∀ r0 H2, K r0 H2 → K2 r0 H2) : c_slices_ContainsFunc_api_Value_api_Value C p_s p_f K2 H :=
 Spec.mono h fun _ H2 ⟨r0, hv, h2⟩ => ⟨r0, hv, hk r0 H2 h2⟩
theorem c_slices_ContainsFunc_api_Value_api_Value.gh {C : Ctx} {p_s : Sl} {p_f : Value} {K : Bool → Heap → Prop} {H : Heap} (h : c_slices_ContainsFunc_api_Value_api_Value C p_s p_f (fun r0 H2 => ∃ H0, Gh C H2 H0 ∧ K r0 H0) H) : c_slices_ContainsFunc_api_Value_api_Value C p_s p_f K H :=
 Spec.gh (Spec.mono h fun _ H2 ⟨r0, hv, H0, hg, hk⟩ => ⟨H0, hg, r0, hv, hk⟩)
def c_zset_sums_1 (C : Ctx) (p_v : T_api_Value) (K : Bool → Heap → Prop) (H : Heap) : Prop :=
 Spec Tryd.prog C 25 [.agg (T_api_Value.c p_v).toArray] H (fun v H2 => ∃ (r0 : Bool), v = .bool r0 ∧ K r0 H2)
theorem c_zset_sums_1.mono {C : Ctx} {p_v : T_api_Value} {K K2 : Bool → Heap → Prop} {H : Heap} (h : c_zset_sums_1 C p_v K H) (hk : ∀ r0 H2, K r0 H2 → K2 r0 H2) : c_zset_sums_1 C p_v K2 H :=
 Spec.mono h fun _ H2 ⟨r0, hv, h2⟩ => ⟨r0, hv, hk r0 H2 h2⟩
theorem c_zset_sums_1.gh {C : Ctx} {p_v : T_api_Value} {K : Bool → Heap → Prop} {H : Heap} (h : c_zset_sums_1 C p_v (fun r0 H2 => ∃ H0, Gh C H2 H0 ∧ K r0 H0) H) : c_zset_sums_1 C p_v K H :=
 Spec.gh (Spec.mono h fun _ H2 ⟨r0, hv, H0, hg, hk⟩ => ⟨H0, hg, r0, hv, hk⟩)
def c_zset_out (C : Ctx) (p_n : Int) (K : Bool → Heap → Prop) (H : Heap) : Prop :=
 Spec Tryd.prog C 26 [.int .i64 p_n] H (fun v H2 => ∃ (r0 : Bool), v = .bool r0 ∧ K r0 H2)
theorem c_zset_out.mono {C : Ctx} {p_n : Int} {K K2 : Bool → Heap → Prop} {H : Heap} (h : c_zset_out C p_n K H) (hk : ∀ r0 H2, K r0 H2 → K2 r0 H2) : c_zset_out C p_n K2 H :=
 Spec.mono h fun _ H2 ⟨r0, hv, h2⟩ => ⟨r0, hv, hk r0 H2 h2⟩
theorem c_zset_out.gh {C : Ctx} {p_n : Int} {K : Bool → Heap → Prop} {H : Heap} (h : c_zset_out C p_n (fun r0 H2 => ∃ H0, Gh C H2 H0 ∧ K r0 H0) H) : c_zset_out C p_n K H :=
 Spec.gh (Spec.mono h fun _ H2 ⟨r0, hv, H0, hg, hk⟩ => ⟨H0, hg, r0, hv, hk⟩)
def c_slices_SortStableFunc_zset_Entry_zset_Entry (C : Ctx) (p_x : Sl) (p_cmp : Value) (K : Heap → Prop) (H : Heap) : Prop :=
 Spec Tryd.prog C 27 [slv p_x, p_cmp] H (fun v H2 => v = .tuple #[] ∧ K H2)
theorem c_slices_SortStableFunc_zset_Entry_zset_Entry.mono {C : Ctx} {p_x : Sl} {p_cmp : Value} {K K2 : Heap → Prop} {H : Heap} (h : c_slices_SortStableFunc_zset_Entry_zset_Entry C p_x p_cmp K H) (hk : ∀  H2, K  H2 → K2  H2) : c_slices_SortStableFunc_zset_Entry_zset_Entry C p_x p_cmp K2 H :=
 Spec.mono h fun _ H2 ⟨hv, h2⟩ => ⟨hv, hk H2 h2⟩
theorem c_slices_SortStableFunc_zset_Entry_zset_Entry.gh {C : Ctx} {p_x : Sl} {p_cmp : Value} {K : Heap → Prop} {H : Heap} (h : c_slices_SortStableFunc_zset_Entry_zset_Entry C p_x p_cmp (fun  H2 => ∃ H0, Gh C H2 H0 ∧ K  H0) H) : c_slices_SortStableFunc_zset_Entry_zset_Entry C p_x p_cmp K H :=
 Spec.gh (Spec.mono h fun _ H2 ⟨hv, H0, hg, hk⟩ => ⟨H0, hg, hv, hk⟩)
def c_zset_sums_2 (C : Ctx) (p_a : T_zset_Entry) (p_b : T_zset_Entry) (K : Int → Heap → Prop) (H : Heap) : Prop :=
 Spec Tryd.prog C 28 [.agg (T_zset_Entry.c p_a).toArray, .agg (T_zset_Entry.c p_b).toArray] H (fun v H2 => ∃ (r0 : Int), v = .int .i64 r0 ∧ K r0 H2)
theorem c_zset_sums_2.mono {C : Ctx} {p_a : T_zset_Entry} {p_b : T_zset_Entry} {K K2 : Int → Heap → Prop} {H : Heap} (h : c_zset_sums_2 C p_a p_b K H) (hk : ∀ r0 H2, K r0 H2 → K2 r0 H2) : c_zset_sums_2 C p_a p_b K2 H :=
 Spec.mono h fun _ H2 ⟨r0, hv, h2⟩ => ⟨r0, hv, hk r0 H2 h2⟩
theorem c_zset_sums_2.gh {C : Ctx} {p_a : T_zset_Entry} {p_b : T_zset_Entry} {K : Int → Heap → Prop} {H : Heap} (h : c_zset_sums_2 C p_a p_b (fun r0 H2 => ∃ H0, Gh C H2 H0 ∧ K r0 H0) H) : c_zset_sums_2 C p_a p_b K H :=
 Spec.gh (Spec.mono h fun _ H2 ⟨r0, hv, H0, hg, hk⟩ => ⟨H0, hg, r0, hv, hk⟩)
def c_zset_own (C : Ctx) (p_l : Sl) (K : Sl → Heap → Prop) (H : Heap) : Prop :=
 Spec Tryd.prog C 29 [slv p_l] H (fun v H2 => ∃ (r0 : Sl), v = slv r0 ∧ K r0 H2)
theorem c_zset_own.mono {C : Ctx} {p_l : Sl} {K K2 : Sl → Heap → Prop} {H : Heap} (h : c_zset_own C p_l K H) (hk : ∀ r0 H2, K r0 H2 → K2 r0 H2) : c_zset_own C p_l K2 H :=
 Spec.mono h fun _ H2 ⟨r0, hv, h2⟩ => ⟨r0, hv, hk r0 H2 h2⟩
theorem c_zset_own.gh {C : Ctx} {p_l : Sl} {K : Sl → Heap → Prop} {H : Heap} (h : c_zset_own C p_l (fun r0 H2 => ∃ H0, Gh C H2 H0 ∧ K r0 H0) H) : c_zset_own C p_l K H :=
 Spec.gh (Spec.mono h fun _ H2 ⟨r0, hv, H0, hg, hk⟩ => ⟨H0, hg, r0, hv, hk⟩)
def c_value_may (C : Ctx) (p_l : Sl) (K : Bool → Heap → Prop) (H : Heap) : Prop :=
 Spec Tryd.prog C 32 [slv p_l] H (fun v H2 => ∃ (r0 : Bool), v = .bool r0 ∧ K r0 H2)
theorem c_value_may.mono {C : Ctx} {p_l : Sl} {K K2 : Bool → Heap → Prop} {H : Heap} (h : c_value_may C p_l K H) (hk : ∀ r0 H2, K r0 H2 → K2 r0 H2) : c_value_may C p_l K2 H :=
 Spec.mono h fun _ H2 ⟨r0, hv, h2⟩ => ⟨r0, hv, hk r0 H2 h2⟩
theorem c_value_may.gh {C : Ctx} {p_l : Sl} {K : Bool → Heap → Prop} {H : Heap} (h : c_value_may C p_l (fun r0 H2 => ∃ H0, Gh C H2 H0 ∧ K r0 H0) H) : c_value_may C p_l K H :=
 Spec.gh (Spec.mono h fun _ H2 ⟨r0, hv, H0, hg, hk⟩ => ⟨H0, hg, r0, hv, hk⟩)
def c_value_last (C : Ctx) (p_a : Bool) (p_b : Bool) (K : Int → Heap → Prop) (H : Heap) : Prop :=
 Spec Tryd.prog C 33 [.bool p_a, .bool p_b] H (fun v H2 => ∃ (r0 : Int), v = .int .i64 r0 ∧ K r0 H2)
theorem c_value_last.mono {C : Ctx} {p_a : Bool} {p_b : Bool} {K K2 : Int → Heap → Prop} {H : Heap} (h : c_value_last C p_a p_b K H) (hk : ∀ r0 H2, K r0 H2 → K2 r0 H2) : c_value_last C p_a p_b K2 H :=
 Spec.mono h fun _ H2 ⟨r0, hv, h2⟩ => ⟨r0, hv, hk r0 H2 h2⟩
theorem c_value_last.gh {C : Ctx} {p_a : Bool} {p_b : Bool} {K : Int → Heap → Prop} {H : Heap} (h : c_value_last C p_a p_b (fun r0 H2 => ∃ H0, Gh C H2 H0 ∧ K r0 H0) H) : c_value_last C p_a p_b K H :=
 Spec.gh (Spec.mono h fun _ H2 ⟨r0, hv, H0, hg, hk⟩ => ⟨H0, hg, r0, hv, hk⟩)
def c_value_rows (C : Ctx) (p_a : Sl) (p_b : Sl) (K : Int → Heap → Prop) (H : Heap) : Prop :=
 Spec Tryd.prog C 34 [slv p_a, slv p_b] H (fun v H2 => ∃ (r0 : Int), v = .int .i64 r0 ∧ K r0 H2)
theorem c_value_rows.mono {C : Ctx} {p_a : Sl} {p_b : Sl} {K K2 : Int → Heap → Prop} {H : Heap} (h : c_value_rows C p_a p_b K H) (hk : ∀ r0 H2, K r0 H2 → K2 r0 H2) : c_value_rows C p_a p_b K2 H :=
 Spec.mono h fun _ H2 ⟨r0, hv, h2⟩ => ⟨r0, hv, hk r0 H2 h2⟩
theorem c_value_rows.gh {C : Ctx} {p_a : Sl} {p_b : Sl} {K : Int → Heap → Prop} {H : Heap} (h : c_value_rows C p_a p_b (fun r0 H2 => ∃ H0, Gh C H2 H0 ∧ K r0 H0) H) : c_value_rows C p_a p_b K H :=
 Spec.gh (Spec.mono h fun _ H2 ⟨r0, hv, H0, hg, hk⟩ => ⟨H0, hg, r0, hv, hk⟩)
def c_value_depth (C : Ctx) (p_v : T_api_Value) (p_most : Int) (K : Int → Heap → Prop) (H : Heap) : Prop :=
 Spec Tryd.prog C 35 [.agg (T_api_Value.c p_v).toArray, .int .i64 p_most] H (fun v H2 => ∃ (r0 : Int), v = .int .i64 r0 ∧ K r0 H2)
theorem c_value_depth.mono {C : Ctx} {p_v : T_api_Value} {p_most : Int} {K K2 : Int → Heap → Prop} {H : Heap} (h : c_value_depth C p_v p_most K H) (hk : ∀ r0 H2, K r0 H2 → K2 r0 H2) : c_value_depth C p_v p_most K2 H :=
 Spec.mono h fun _ H2 ⟨r0, hv, h2⟩ => ⟨r0, hv, hk r0 H2 h2⟩
theorem c_value_depth.gh {C : Ctx} {p_v : T_api_Value} {p_most : Int} {K : Int → Heap → Prop} {H : Heap} (h : c_value_depth C p_v p_most (fun r0 H2 => ∃ H0, Gh C H2 H0 ∧ K r0 H0) H) : c_value_depth C p_v p_most K H :=
 Spec.gh (Spec.mono h fun _ H2 ⟨r0, hv, H0, hg, hk⟩ => ⟨H0, hg, r0, hv, hk⟩)
def c_value_item_look (C : Ctx) (p_v : T_api_Value) (K : Bool → Bool → Heap → Prop) (H : Heap) : Prop :=
 Spec Tryd.prog C 36 [.agg (T_api_Value.c p_v).toArray] H (fun v H2 => ∃ (r0 : Bool) (r1 : Bool), v = .tuple #[.bool r0, .bool r1] ∧ K r0 r1 H2)
theorem c_value_item_look.mono {C : Ctx} {p_v : T_api_Value} {K K2 : Bool → Bool → Heap → Prop} {H : Heap} (h : c_value_item_look C p_v K H) (hk : ∀ r0 r1 H2, K r0 r1 H2 → K2 r0 r1 H2) : c_value_item_look C p_v K2 H :=
 Spec.mono h fun _ H2 ⟨r0, r1, hv, h2⟩ => ⟨r0, r1, hv, hk r0 r1 H2 h2⟩
theorem c_value_item_look.gh {C : Ctx} {p_v : T_api_Value} {K : Bool → Bool → Heap → Prop} {H : Heap} (h : c_value_item_look C p_v (fun r0 r1 H2 => ∃ H0, Gh C H2 H0 ∧ K r0 r1 H0) H) : c_value_item_look C p_v K H :=
 Spec.gh (Spec.mono h fun _ H2 ⟨r0, r1, hv, H0, hg, hk⟩ => ⟨H0, hg, r0, r1, hv, hk⟩)
def c_ref02_SameRow (C : Ctx) (p_a : Sl) (p_b : Sl) (K : Bool → Heap → Prop) (H : Heap) : Prop :=
 Spec Tryd.prog C 37 [slv p_a, slv p_b] H (fun v H2 => ∃ (r0 : Bool), v = .bool r0 ∧ K r0 H2)
theorem c_ref02_SameRow.mono {C : Ctx} {p_a : Sl} {p_b : Sl} {K K2 : Bool → Heap → Prop} {H : Heap} (h : c_ref02_SameRow C p_a p_b K H) (hk : ∀ r0 H2, K r0 H2 → K2 r0 H2) : c_ref02_SameRow C p_a p_b K2 H :=
 Spec.mono h fun _ H2 ⟨r0, hv, h2⟩ => ⟨r0, hv, hk r0 H2 h2⟩
theorem c_ref02_SameRow.gh {C : Ctx} {p_a : Sl} {p_b : Sl} {K : Bool → Heap → Prop} {H : Heap} (h : c_ref02_SameRow C p_a p_b (fun r0 H2 => ∃ H0, Gh C H2 H0 ∧ K r0 H0) H) : c_ref02_SameRow C p_a p_b K H :=
 Spec.gh (Spec.mono h fun _ H2 ⟨r0, hv, H0, hg, hk⟩ => ⟨H0, hg, r0, hv, hk⟩)
def c_zset_each_1 (C : Ctx) (p_yield : Value) (v0 : Nat × Nat) (K : Heap → Prop) (H : Heap) : Prop :=
 Spec Tryd.prog C 38 [p_yield, pv (some v0)] H (fun v H2 => v = .tuple #[] ∧ K H2)
theorem c_zset_each_1.mono {C : Ctx} {p_yield : Value} {v0 : Nat × Nat} {K K2 : Heap → Prop} {H : Heap} (h : c_zset_each_1 C p_yield v0 K H) (hk : ∀  H2, K  H2 → K2  H2) : c_zset_each_1 C p_yield v0 K2 H :=
 Spec.mono h fun _ H2 ⟨hv, h2⟩ => ⟨hv, hk H2 h2⟩
theorem c_zset_each_1.gh {C : Ctx} {p_yield : Value} {v0 : Nat × Nat} {K : Heap → Prop} {H : Heap} (h : c_zset_each_1 C p_yield v0 (fun  H2 => ∃ H0, Gh C H2 H0 ∧ K  H0) H) : c_zset_each_1 C p_yield v0 K H :=
 Spec.gh (Spec.mono h fun _ H2 ⟨hv, H0, hg, hk⟩ => ⟨H0, hg, hv, hk⟩)
def c_slices_IndexFunc_api_Value_api_Value (C : Ctx) (p_s : Sl) (p_f : Value) (K : Int → Heap → Prop) (H : Heap) : Prop :=
 Spec Tryd.prog C 39 [slv p_s, p_f] H (fun v H2 => ∃ (r0 : Int), v = .int .i64 r0 ∧ K r0 H2)
theorem c_slices_IndexFunc_api_Value_api_Value.mono {C : Ctx} {p_s : Sl} {p_f : Value} {K K2 : Int → Heap → Prop} {H : Heap} (h : c_slices_IndexFunc_api_Value_api_Value C p_s p_f K H) (hk : ∀ r0 H2, K r0 H2 → K2 r0 H2) : c_slices_IndexFunc_api_Value_api_Value C p_s p_f K2 H :=
 Spec.mono h fun _ H2 ⟨r0, hv, h2⟩ => ⟨r0, hv, hk r0 H2 h2⟩
theorem c_slices_IndexFunc_api_Value_api_Value.gh {C : Ctx} {p_s : Sl} {p_f : Value} {K : Int → Heap → Prop} {H : Heap} (h : c_slices_IndexFunc_api_Value_api_Value C p_s p_f (fun r0 H2 => ∃ H0, Gh C H2 H0 ∧ K r0 H0) H) : c_slices_IndexFunc_api_Value_api_Value C p_s p_f K H :=
 Spec.gh (Spec.mono h fun _ H2 ⟨r0, hv, H0, hg, hk⟩ => ⟨H0, hg, r0, hv, hk⟩)
def c_slices_stableCmpFunc_zset_Entry (C : Ctx) (p_data : Sl) (p_n : Int) (p_cmp : Value) (K : Heap → Prop) (H : Heap) : Prop :=
 Spec Tryd.prog C 40 [slv p_data, .int .i64 p_n, p_cmp] H (fun v H2 => v = .tuple #[] ∧ K H2)
theorem c_slices_stableCmpFunc_zset_Entry.mono {C : Ctx} {p_data : Sl} {p_n : Int} {p_cmp : Value} {K K2 : Heap → Prop} {H : Heap} (h : c_slices_stableCmpFunc_zset_Entry C p_data p_n p_cmp K H) (hk : ∀  H2, K  H2 → K2  H2) : c_slices_stableCmpFunc_zset_Entry C p_data p_n p_cmp K2 H :=
 Spec.mono h fun _ H2 ⟨hv, h2⟩ => ⟨hv, hk H2 h2⟩
theorem c_slices_stableCmpFunc_zset_Entry.gh {C : Ctx} {p_data : Sl} {p_n : Int} {p_cmp : Value} {K : Heap → Prop} {H : Heap} (h : c_slices_stableCmpFunc_zset_Entry C p_data p_n p_cmp (fun  H2 => ∃ H0, Gh C H2 H0 ∧ K  H0) H) : c_slices_stableCmpFunc_zset_Entry C p_data p_n p_cmp K H :=
 Spec.gh (Spec.mono h fun _ H2 ⟨hv, H0, hg, hk⟩ => ⟨H0, hg, hv, hk⟩)
def c_slices_Clone_api_Value_api_Value (C : Ctx) (p_s : Sl) (K : Sl → Heap → Prop) (H : Heap) : Prop :=
 Spec Tryd.prog C 41 [slv p_s] H (fun v H2 => ∃ (r0 : Sl), v = slv r0 ∧ K r0 H2)
theorem c_slices_Clone_api_Value_api_Value.mono {C : Ctx} {p_s : Sl} {K K2 : Sl → Heap → Prop} {H : Heap} (h : c_slices_Clone_api_Value_api_Value C p_s K H) (hk : ∀ r0 H2, K r0 H2 → K2 r0 H2) : c_slices_Clone_api_Value_api_Value C p_s K2 H :=
 Spec.mono h fun _ H2 ⟨r0, hv, h2⟩ => ⟨r0, hv, hk r0 H2 h2⟩
theorem c_slices_Clone_api_Value_api_Value.gh {C : Ctx} {p_s : Sl} {K : Sl → Heap → Prop} {H : Heap} (h : c_slices_Clone_api_Value_api_Value C p_s (fun r0 H2 => ∃ H0, Gh C H2 H0 ∧ K r0 H0) H) : c_slices_Clone_api_Value_api_Value C p_s K H :=
 Spec.gh (Spec.mono h fun _ H2 ⟨r0, hv, H0, hg, hk⟩ => ⟨H0, hg, r0, hv, hk⟩)
def c_value_may_1 (C : Ctx) (p_v : T_api_Value) (K : Bool → Heap → Prop) (H : Heap) : Prop :=
 Spec Tryd.prog C 43 [.agg (T_api_Value.c p_v).toArray] H (fun v H2 => ∃ (r0 : Bool), v = .bool r0 ∧ K r0 H2)
theorem c_value_may_1.mono {C : Ctx} {p_v : T_api_Value} {K K2 : Bool → Heap → Prop} {H : Heap} (h : c_value_may_1 C p_v K H) (hk : ∀ r0 H2, K r0 H2 → K2 r0 H2) : c_value_may_1 C p_v K2 H :=
 Spec.mono h fun _ H2 ⟨r0, hv, h2⟩ => ⟨r0, hv, hk r0 H2 h2⟩
theorem c_value_may_1.gh {C : Ctx} {p_v : T_api_Value} {K : Bool → Heap → Prop} {H : Heap} (h : c_value_may_1 C p_v (fun r0 H2 => ∃ H0, Gh C H2 H0 ∧ K r0 H0) H) : c_value_may_1 C p_v K H :=
 Spec.gh (Spec.mono h fun _ H2 ⟨r0, hv, H0, hg, hk⟩ => ⟨H0, hg, r0, hv, hk⟩)
def c_slices_CompareFunc_api_Value_api_Value_api_Value_api_Value (C : Ctx) (p_s1 : Sl) (p_s2 : Sl) (p_cmp : Value) (K : Int → Heap → Prop) (H : Heap) : Prop :=
 Spec Tryd.prog C 44 [slv p_s1, slv p_s2, p_cmp] H (fun v H2 => ∃ (r0 : Int), v = .int .i64 r0 ∧ K r0 H2)
theorem c_slices_CompareFunc_api_Value_api_Value_api_Value_api_Value.mono {C : Ctx} {p_s1 : Sl} {p_s2 : Sl} {p_cmp : Value} {K K2 : Int → Heap → Prop} {H : Heap} (h : c_slices_CompareFunc_api_Value_api_Value_api_Value_api_Value C p_s1 p_s2 p_cmp K H) (hk : ∀ r0 H2, K r0 H2 → K2 r0 H2) : c_slices_CompareFunc_api_Value_api_Value_api_Value_api_Value C p_s1 p_s2 p_cmp K2 H :=
 Spec.mono h fun _ H2 ⟨r0, hv, h2⟩ => ⟨r0, hv, hk r0 H2 h2⟩
theorem c_slices_CompareFunc_api_Value_api_Value_api_Value_api_Value.gh {C : Ctx} {p_s1 : Sl} {p_s2 : Sl} {p_cmp : Value} {K : Int → Heap → Prop} {H : Heap} (h : c_slices_CompareFunc_api_Value_api_Value_api_Value_api_Value C p_s1 p_s2 p_cmp (fun r0 H2 => ∃ H0, Gh C H2 H0 ∧ K r0 H0) H) : c_slices_CompareFunc_api_Value_api_Value_api_Value_api_Value C p_s1 p_s2 p_cmp K H :=
 Spec.gh (Spec.mono h fun _ H2 ⟨r0, hv, H0, hg, hk⟩ => ⟨H0, hg, r0, hv, hk⟩)
def c_value_rows_1 (C : Ctx) (p_x : T_api_Value) (p_y : T_api_Value) (K : Int → Heap → Prop) (H : Heap) : Prop :=
 Spec Tryd.prog C 45 [.agg (T_api_Value.c p_x).toArray, .agg (T_api_Value.c p_y).toArray] H (fun v H2 => ∃ (r0 : Int), v = .int .i64 r0 ∧ K r0 H2)
theorem c_value_rows_1.mono {C : Ctx} {p_x : T_api_Value} {p_y : T_api_Value} {K K2 : Int → Heap → Prop} {H : Heap} (h : c_value_rows_1 C p_x p_y K H) (hk : ∀ r0 H2, K r0 H2 → K2 r0 H2) : c_value_rows_1 C p_x p_y K2 H :=
 Spec.mono h fun _ H2 ⟨r0, hv, h2⟩ => ⟨r0, hv, hk r0 H2 h2⟩
theorem c_value_rows_1.gh {C : Ctx} {p_x : T_api_Value} {p_y : T_api_Value} {K : Int → Heap → Prop} {H : Heap} (h : c_value_rows_1 C p_x p_y (fun r0 H2 => ∃ H0, Gh C H2 H0 ∧ K r0 H0) H) : c_value_rows_1 C p_x p_y K H :=
 Spec.gh (Spec.mono h fun _ H2 ⟨r0, hv, H0, hg, hk⟩ => ⟨H0, hg, r0, hv, hk⟩)
def c_value_item_cmp (C : Ctx) (p_v : T_api_Value) (p_w : T_api_Value) (K : Int → Heap → Prop) (H : Heap) : Prop :=
 Spec Tryd.prog C 46 [.agg (T_api_Value.c p_v).toArray, .agg (T_api_Value.c p_w).toArray] H (fun v H2 => ∃ (r0 : Int), v = .int .i64 r0 ∧ K r0 H2)
theorem c_value_item_cmp.mono {C : Ctx} {p_v : T_api_Value} {p_w : T_api_Value} {K K2 : Int → Heap → Prop} {H : Heap} (h : c_value_item_cmp C p_v p_w K H) (hk : ∀ r0 H2, K r0 H2 → K2 r0 H2) : c_value_item_cmp C p_v p_w K2 H :=
 Spec.mono h fun _ H2 ⟨r0, hv, h2⟩ => ⟨r0, hv, hk r0 H2 h2⟩
theorem c_value_item_cmp.gh {C : Ctx} {p_v : T_api_Value} {p_w : T_api_Value} {K : Int → Heap → Prop} {H : Heap} (h : c_value_item_cmp C p_v p_w (fun r0 H2 => ∃ H0, Gh C H2 H0 ∧ K r0 H0) H) : c_value_item_cmp C p_v p_w K H :=
 Spec.gh (Spec.mono h fun _ H2 ⟨r0, hv, H0, hg, hk⟩ => ⟨H0, hg, r0, hv, hk⟩)
def c_value_number (C : Ctx) (p_s : Str) (K : Int → Bool → Heap → Prop) (H : Heap) : Prop :=
 Spec Tryd.prog C 47 [sv p_s] H (fun v H2 => ∃ (r0 : Int) (r1 : Bool), v = .tuple #[.int .i64 r0, .bool r1] ∧ K r0 r1 H2)
theorem c_value_number.mono {C : Ctx} {p_s : Str} {K K2 : Int → Bool → Heap → Prop} {H : Heap} (h : c_value_number C p_s K H) (hk : ∀ r0 r1 H2, K r0 r1 H2 → K2 r0 r1 H2) : c_value_number C p_s K2 H :=
 Spec.mono h fun _ H2 ⟨r0, r1, hv, h2⟩ => ⟨r0, r1, hv, hk r0 r1 H2 h2⟩
theorem c_value_number.gh {C : Ctx} {p_s : Str} {K : Int → Bool → Heap → Prop} {H : Heap} (h : c_value_number C p_s (fun r0 r1 H2 => ∃ H0, Gh C H2 H0 ∧ K r0 r1 H0) H) : c_value_number C p_s K H :=
 Spec.gh (Spec.mono h fun _ H2 ⟨r0, r1, hv, H0, hg, hk⟩ => ⟨H0, hg, r0, r1, hv, hk⟩)
def c_strings_Cut (C : Ctx) (p_s : Str) (p_sep : Str) (K : Str → Str → Bool → Heap → Prop) (H : Heap) : Prop :=
 Spec Tryd.prog C 48 [sv p_s, sv p_sep] H (fun v H2 => ∃ (r0 : Str) (r1 : Str) (r2 : Bool), v = .tuple #[sv r0, sv r1, .bool r2] ∧ K r0 r1 r2 H2)
theorem c_strings_Cut.mono {C : Ctx} {p_s : Str} {p_sep : Str} {K K2 : Str → Str → Bool → Heap → Prop} {H : Heap} (h : c_strings_Cut C p_s p_sep K H) (hk : ∀ r0 r1 r2 H2, K r0 r1 r2 H2 → K2 r0 r1 r2 H2) : c_strings_Cut C p_s p_sep K2 H :=
 Spec.mono h fun _ H2 ⟨r0, r1, r2, hv, h2⟩ => ⟨r0, r1, r2, hv, hk r0 r1 r2 H2 h2⟩
theorem c_strings_Cut.gh {C : Ctx} {p_s : Str} {p_sep : Str} {K : Str → Str → Bool → Heap → Prop} {H : Heap} (h : c_strings_Cut C p_s p_sep (fun r0 r1 r2 H2 => ∃ H0, Gh C H2 H0 ∧ K r0 r1 r2 H0) H) : c_strings_Cut C p_s p_sep K H :=
 Spec.gh (Spec.mono h fun _ H2 ⟨r0, r1, r2, hv, H0, hg, hk⟩ => ⟨H0, hg, r0, r1, r2, hv, hk⟩)
def c_value_name (C : Ctx) (p_s : Str) (K : Bool → Heap → Prop) (H : Heap) : Prop :=
 Spec Tryd.prog C 49 [sv p_s] H (fun v H2 => ∃ (r0 : Bool), v = .bool r0 ∧ K r0 H2)
theorem c_value_name.mono {C : Ctx} {p_s : Str} {K K2 : Bool → Heap → Prop} {H : Heap} (h : c_value_name C p_s K H) (hk : ∀ r0 H2, K r0 H2 → K2 r0 H2) : c_value_name C p_s K2 H :=
 Spec.mono h fun _ H2 ⟨r0, hv, h2⟩ => ⟨r0, hv, hk r0 H2 h2⟩
theorem c_value_name.gh {C : Ctx} {p_s : Str} {K : Bool → Heap → Prop} {H : Heap} (h : c_value_name C p_s (fun r0 H2 => ∃ H0, Gh C H2 H0 ∧ K r0 H0) H) : c_value_name C p_s K H :=
 Spec.gh (Spec.mono h fun _ H2 ⟨r0, hv, H0, hg, hk⟩ => ⟨H0, hg, r0, hv, hk⟩)
def c_ref02_Same (C : Ctx) (p_a : T_api_Value) (p_b : T_api_Value) (K : Bool → Heap → Prop) (H : Heap) : Prop :=
 Spec Tryd.prog C 50 [.agg (T_api_Value.c p_a).toArray, .agg (T_api_Value.c p_b).toArray] H (fun v H2 => ∃ (r0 : Bool), v = .bool r0 ∧ K r0 H2)
theorem c_ref02_Same.mono {C : Ctx} {p_a : T_api_Value} {p_b : T_api_Value} {K K2 : Bool → Heap → Prop} {H : Heap} (h : c_ref02_Same C p_a p_b K H) (hk : ∀ r0 H2, K r0 H2 → K2 r0 H2) : c_ref02_Same C p_a p_b K2 H :=
 Spec.mono h fun _ H2 ⟨r0, hv, h2⟩ => ⟨r0, hv, hk r0 H2 h2⟩
theorem c_ref02_Same.gh {C : Ctx} {p_a : T_api_Value} {p_b : T_api_Value} {K : Bool → Heap → Prop} {H : Heap} (h : c_ref02_Same C p_a p_b (fun r0 H2 => ∃ H0, Gh C H2 H0 ∧ K r0 H0) H) : c_ref02_Same C p_a p_b K H :=
 Spec.gh (Spec.mono h fun _ H2 ⟨r0, hv, H0, hg, hk⟩ => ⟨H0, hg, r0, hv, hk⟩)
def c_slices_insertionSortCmpFunc_zset_Entry (C : Ctx) (p_data : Sl) (p_a : Int) (p_b : Int) (p_cmp : Value) (K : Heap → Prop) (H : Heap) : Prop :=
 Spec Tryd.prog C 51 [slv p_data, .int .i64 p_a, .int .i64 p_b, p_cmp] H (fun v H2 => v = .tuple #[] ∧ K H2)
theorem c_slices_insertionSortCmpFunc_zset_Entry.mono {C : Ctx} {p_data : Sl} {p_a : Int} {p_b : Int} {p_cmp : Value} {K K2 : Heap → Prop} {H : Heap} (h : c_slices_insertionSortCmpFunc_zset_Entry C p_data p_a p_b p_cmp K H) (hk : ∀  H2, K  H2 → K2  H2) : c_slices_insertionSortCmpFunc_zset_Entry C p_data p_a p_b p_cmp K2 H :=
 Spec.mono h fun _ H2 ⟨hv, h2⟩ => ⟨hv, hk H2 h2⟩
theorem c_slices_insertionSortCmpFunc_zset_Entry.gh {C : Ctx} {p_data : Sl} {p_a : Int} {p_b : Int} {p_cmp : Value} {K : Heap → Prop} {H : Heap} (h : c_slices_insertionSortCmpFunc_zset_Entry C p_data p_a p_b p_cmp (fun  H2 => ∃ H0, Gh C H2 H0 ∧ K  H0) H) : c_slices_insertionSortCmpFunc_zset_Entry C p_data p_a p_b p_cmp K H :=
 Spec.gh (Spec.mono h fun _ H2 ⟨hv, H0, hg, hk⟩ => ⟨H0, hg, hv, hk⟩)
def c_slices_symMergeCmpFunc_zset_Entry (C : Ctx) (p_data : Sl) (p_a : Int) (p_m : Int) (p_b : Int) (p_cmp : Value) (K : Heap → Prop) (H : Heap) : Prop :=
 Spec Tryd.prog C 52 [slv p_data, .int .i64 p_a, .int .i64 p_m, .int .i64 p_b, p_cmp] H (fun v H2 => v = .tuple #[] ∧ K H2)
theorem c_slices_symMergeCmpFunc_zset_Entry.mono {C : Ctx} {p_data : Sl} {p_a : Int} {p_m : Int} {p_b : Int} {p_cmp : Value} {K K2 : Heap → Prop} {H : Heap} (h : c_slices_symMergeCmpFunc_zset_Entry C p_data p_a p_m p_b p_cmp K H) (hk : ∀  H2, K  H2 → K2  H2) : c_slices_symMergeCmpFunc_zset_Entry C p_data p_a p_m p_b p_cmp K2 H :=
 Spec.mono h fun _ H2 ⟨hv, h2⟩ => ⟨hv, hk H2 h2⟩
theorem c_slices_symMergeCmpFunc_zset_Entry.gh {C : Ctx} {p_data : Sl} {p_a : Int} {p_m : Int} {p_b : Int} {p_cmp : Value} {K : Heap → Prop} {H : Heap} (h : c_slices_symMergeCmpFunc_zset_Entry C p_data p_a p_m p_b p_cmp (fun  H2 => ∃ H0, Gh C H2 H0 ∧ K  H0) H) : c_slices_symMergeCmpFunc_zset_Entry C p_data p_a p_m p_b p_cmp K H :=
 Spec.gh (Spec.mono h fun _ H2 ⟨hv, H0, hg, hk⟩ => ⟨H0, hg, hv, hk⟩)
def c_cmp_Compare_uint8 (C : Ctx) (p_x : Int) (p_y : Int) (K : Int → Heap → Prop) (H : Heap) : Prop :=
 Spec Tryd.prog C 53 [.int .u8 p_x, .int .u8 p_y] H (fun v H2 => ∃ (r0 : Int), v = .int .i64 r0 ∧ K r0 H2)
theorem c_cmp_Compare_uint8.mono {C : Ctx} {p_x : Int} {p_y : Int} {K K2 : Int → Heap → Prop} {H : Heap} (h : c_cmp_Compare_uint8 C p_x p_y K H) (hk : ∀ r0 H2, K r0 H2 → K2 r0 H2) : c_cmp_Compare_uint8 C p_x p_y K2 H :=
 Spec.mono h fun _ H2 ⟨r0, hv, h2⟩ => ⟨r0, hv, hk r0 H2 h2⟩
theorem c_cmp_Compare_uint8.gh {C : Ctx} {p_x : Int} {p_y : Int} {K : Int → Heap → Prop} {H : Heap} (h : c_cmp_Compare_uint8 C p_x p_y (fun r0 H2 => ∃ H0, Gh C H2 H0 ∧ K r0 H0) H) : c_cmp_Compare_uint8 C p_x p_y K H :=
 Spec.gh (Spec.mono h fun _ H2 ⟨r0, hv, H0, hg, hk⟩ => ⟨H0, hg, r0, hv, hk⟩)
def c_value_bigs (C : Ctx) (p_a : Str) (p_b : Str) (K : Int → Heap → Prop) (H : Heap) : Prop :=
 Spec Tryd.prog C 54 [sv p_a, sv p_b] H (fun v H2 => ∃ (r0 : Int), v = .int .i64 r0 ∧ K r0 H2)
theorem c_value_bigs.mono {C : Ctx} {p_a : Str} {p_b : Str} {K K2 : Int → Heap → Prop} {H : Heap} (h : c_value_bigs C p_a p_b K H) (hk : ∀ r0 H2, K r0 H2 → K2 r0 H2) : c_value_bigs C p_a p_b K2 H :=
 Spec.mono h fun _ H2 ⟨r0, hv, h2⟩ => ⟨r0, hv, hk r0 H2 h2⟩
theorem c_value_bigs.gh {C : Ctx} {p_a : Str} {p_b : Str} {K : Int → Heap → Prop} {H : Heap} (h : c_value_bigs C p_a p_b (fun r0 H2 => ∃ H0, Gh C H2 H0 ∧ K r0 H0) H) : c_value_bigs C p_a p_b K H :=
 Spec.gh (Spec.mono h fun _ H2 ⟨r0, hv, H0, hg, hk⟩ => ⟨H0, hg, r0, hv, hk⟩)
def c_cmp_Compare_string (C : Ctx) (p_x : Str) (p_y : Str) (K : Int → Heap → Prop) (H : Heap) : Prop :=
 Spec Tryd.prog C 55 [sv p_x, sv p_y] H (fun v H2 => ∃ (r0 : Int), v = .int .i64 r0 ∧ K r0 H2)
theorem c_cmp_Compare_string.mono {C : Ctx} {p_x : Str} {p_y : Str} {K K2 : Int → Heap → Prop} {H : Heap} (h : c_cmp_Compare_string C p_x p_y K H) (hk : ∀ r0 H2, K r0 H2 → K2 r0 H2) : c_cmp_Compare_string C p_x p_y K2 H :=
 Spec.mono h fun _ H2 ⟨r0, hv, h2⟩ => ⟨r0, hv, hk r0 H2 h2⟩
theorem c_cmp_Compare_string.gh {C : Ctx} {p_x : Str} {p_y : Str} {K : Int → Heap → Prop} {H : Heap} (h : c_cmp_Compare_string C p_x p_y (fun r0 H2 => ∃ H0, Gh C H2 H0 ∧ K r0 H0) H) : c_cmp_Compare_string C p_x p_y K H :=
 Spec.gh (Spec.mono h fun _ H2 ⟨r0, hv, H0, hg, hk⟩ => ⟨H0, hg, r0, hv, hk⟩)
def c_cmp_Or_int (C : Ctx) (p_vals : Sl) (K : Int → Heap → Prop) (H : Heap) : Prop :=
 Spec Tryd.prog C 56 [slv p_vals] H (fun v H2 => ∃ (r0 : Int), v = .int .i64 r0 ∧ K r0 H2)
theorem c_cmp_Or_int.mono {C : Ctx} {p_vals : Sl} {K K2 : Int → Heap → Prop} {H : Heap} (h : c_cmp_Or_int C p_vals K H) (hk : ∀ r0 H2, K r0 H2 → K2 r0 H2) : c_cmp_Or_int C p_vals K2 H :=
 Spec.mono h fun _ H2 ⟨r0, hv, h2⟩ => ⟨r0, hv, hk r0 H2 h2⟩
theorem c_cmp_Or_int.gh {C : Ctx} {p_vals : Sl} {K : Int → Heap → Prop} {H : Heap} (h : c_cmp_Or_int C p_vals (fun r0 H2 => ∃ H0, Gh C H2 H0 ∧ K r0 H0) H) : c_cmp_Or_int C p_vals K H :=
 Spec.gh (Spec.mono h fun _ H2 ⟨r0, hv, H0, hg, hk⟩ => ⟨H0, hg, r0, hv, hk⟩)
def c_cmp_Compare_int64 (C : Ctx) (p_x : Int) (p_y : Int) (K : Int → Heap → Prop) (H : Heap) : Prop :=
 Spec Tryd.prog C 57 [.int .i64 p_x, .int .i64 p_y] H (fun v H2 => ∃ (r0 : Int), v = .int .i64 r0 ∧ K r0 H2)
theorem c_cmp_Compare_int64.mono {C : Ctx} {p_x : Int} {p_y : Int} {K K2 : Int → Heap → Prop} {H : Heap} (h : c_cmp_Compare_int64 C p_x p_y K H) (hk : ∀ r0 H2, K r0 H2 → K2 r0 H2) : c_cmp_Compare_int64 C p_x p_y K2 H :=
 Spec.mono h fun _ H2 ⟨r0, hv, h2⟩ => ⟨r0, hv, hk r0 H2 h2⟩
theorem c_cmp_Compare_int64.gh {C : Ctx} {p_x : Int} {p_y : Int} {K : Int → Heap → Prop} {H : Heap} (h : c_cmp_Compare_int64 C p_x p_y (fun r0 H2 => ∃ H0, Gh C H2 H0 ∧ K r0 H0) H) : c_cmp_Compare_int64 C p_x p_y K H :=
 Spec.gh (Spec.mono h fun _ H2 ⟨r0, hv, H0, hg, hk⟩ => ⟨H0, hg, r0, hv, hk⟩)
def c_strings_TrimPrefix (C : Ctx) (p_s : Str) (p_prefix : Str) (K : Str → Heap → Prop) (H : Heap) : Prop :=
 Spec Tryd.prog C 58 [sv p_s, sv p_prefix] H (fun v H2 => ∃ (r0 : Str), v = sv r0 ∧ K r0 H2)
theorem c_strings_TrimPrefix.mono {C : Ctx} {p_s : Str} {p_prefix : Str} {K K2 : Str → Heap → Prop} {H : Heap} (h : c_strings_TrimPrefix C p_s p_prefix K H) (hk : ∀ r0 H2, K r0 H2 → K2 r0 H2) : c_strings_TrimPrefix C p_s p_prefix K2 H :=
 Spec.mono h fun _ H2 ⟨r0, hv, h2⟩ => ⟨r0, hv, hk r0 H2 h2⟩
theorem c_strings_TrimPrefix.gh {C : Ctx} {p_s : Str} {p_prefix : Str} {K : Str → Heap → Prop} {H : Heap} (h : c_strings_TrimPrefix C p_s p_prefix (fun r0 H2 => ∃ H0, Gh C H2 H0 ∧ K r0 H0) H) : c_strings_TrimPrefix C p_s p_prefix K H :=
 Spec.gh (Spec.mono h fun _ H2 ⟨r0, hv, H0, hg, hk⟩ => ⟨H0, hg, r0, hv, hk⟩)
def c_strings_Trim (C : Ctx) (p_s : Str) (p_cutset : Str) (K : Str → Heap → Prop) (H : Heap) : Prop :=
 Spec Tryd.prog C 59 [sv p_s, sv p_cutset] H (fun v H2 => ∃ (r0 : Str), v = sv r0 ∧ K r0 H2)
theorem c_strings_Trim.mono {C : Ctx} {p_s : Str} {p_cutset : Str} {K K2 : Str → Heap → Prop} {H : Heap} (h : c_strings_Trim C p_s p_cutset K H) (hk : ∀ r0 H2, K r0 H2 → K2 r0 H2) : c_strings_Trim C p_s p_cutset K2 H :=
 Spec.mono h fun _ H2 ⟨r0, hv, h2⟩ => ⟨r0, hv, hk r0 H2 h2⟩
theorem c_strings_Trim.gh {C : Ctx} {p_s : Str} {p_cutset : Str} {K : Str → Heap → Prop} {H : Heap} (h : c_strings_Trim C p_s p_cutset (fun r0 H2 => ∃ H0, Gh C H2 H0 ∧ K r0 H0) H) : c_strings_Trim C p_s p_cutset K H :=
 Spec.gh (Spec.mono h fun _ H2 ⟨r0, hv, H0, hg, hk⟩ => ⟨H0, hg, r0, hv, hk⟩)
def c_internal_stringslite_Cut (C : Ctx) (p_s : Str) (p_sep : Str) (K : Str → Str → Bool → Heap → Prop) (H : Heap) : Prop :=
 Spec Tryd.prog C 60 [sv p_s, sv p_sep] H (fun v H2 => ∃ (r0 : Str) (r1 : Str) (r2 : Bool), v = .tuple #[sv r0, sv r1, .bool r2] ∧ K r0 r1 r2 H2)
theorem c_internal_stringslite_Cut.mono {C : Ctx} {p_s : Str} {p_sep : Str} {K K2 : Str → Str → Bool → Heap → Prop} {H : Heap} (h : c_internal_stringslite_Cut C p_s p_sep K H) (hk : ∀ r0 r1 r2 H2, K r0 r1 r2 H2 → K2 r0 r1 r2 H2) : c_internal_stringslite_Cut C p_s p_sep K2 H :=
 Spec.mono h fun _ H2 ⟨r0, r1, r2, hv, h2⟩ => ⟨r0, r1, r2, hv, hk r0 r1 r2 H2 h2⟩
theorem c_internal_stringslite_Cut.gh {C : Ctx} {p_s : Str} {p_sep : Str} {K : Str → Str → Bool → Heap → Prop} {H : Heap} (h : c_internal_stringslite_Cut C p_s p_sep (fun r0 r1 r2 H2 => ∃ H0, Gh C H2 H0 ∧ K r0 r1 r2 H0) H) : c_internal_stringslite_Cut C p_s p_sep K H :=
 Spec.gh (Spec.mono h fun _ H2 ⟨r0, r1, r2, hv, H0, hg, hk⟩ => ⟨H0, hg, r0, r1, r2, hv, hk⟩)
def c_slices_rotateCmpFunc_zset_Entry (C : Ctx) (p_data : Sl) (p_a : Int) (p_m : Int) (p_b : Int) (p_cmp : Value) (K : Heap → Prop) (H : Heap) : Prop :=
 Spec Tryd.prog C 61 [slv p_data, .int .i64 p_a, .int .i64 p_m, .int .i64 p_b, p_cmp] H (fun v H2 => v = .tuple #[] ∧ K H2)
theorem c_slices_rotateCmpFunc_zset_Entry.mono {C : Ctx} {p_data : Sl} {p_a : Int} {p_m : Int} {p_b : Int} {p_cmp : Value} {K K2 : Heap → Prop} {H : Heap} (h : c_slices_rotateCmpFunc_zset_Entry C p_data p_a p_m p_b p_cmp K H) (hk : ∀  H2, K  H2 → K2  H2) : c_slices_rotateCmpFunc_zset_Entry C p_data p_a p_m p_b p_cmp K2 H :=
 Spec.mono h fun _ H2 ⟨hv, h2⟩ => ⟨hv, hk H2 h2⟩
theorem c_slices_rotateCmpFunc_zset_Entry.gh {C : Ctx} {p_data : Sl} {p_a : Int} {p_m : Int} {p_b : Int} {p_cmp : Value} {K : Heap → Prop} {H : Heap} (h : c_slices_rotateCmpFunc_zset_Entry C p_data p_a p_m p_b p_cmp (fun  H2 => ∃ H0, Gh C H2 H0 ∧ K  H0) H) : c_slices_rotateCmpFunc_zset_Entry C p_data p_a p_m p_b p_cmp K H :=
 Spec.gh (Spec.mono h fun _ H2 ⟨hv, H0, hg, hk⟩ => ⟨H0, hg, hv, hk⟩)
def c_cmp_isNaN_uint8 (C : Ctx) (p_x : Int) (K : Bool → Heap → Prop) (H : Heap) : Prop :=
 Spec Tryd.prog C 62 [.int .u8 p_x] H (fun v H2 => ∃ (r0 : Bool), v = .bool r0 ∧ K r0 H2)
theorem c_cmp_isNaN_uint8.mono {C : Ctx} {p_x : Int} {K K2 : Bool → Heap → Prop} {H : Heap} (h : c_cmp_isNaN_uint8 C p_x K H) (hk : ∀ r0 H2, K r0 H2 → K2 r0 H2) : c_cmp_isNaN_uint8 C p_x K2 H :=
 Spec.mono h fun _ H2 ⟨r0, hv, h2⟩ => ⟨r0, hv, hk r0 H2 h2⟩
theorem c_cmp_isNaN_uint8.gh {C : Ctx} {p_x : Int} {K : Bool → Heap → Prop} {H : Heap} (h : c_cmp_isNaN_uint8 C p_x (fun r0 H2 => ∃ H0, Gh C H2 H0 ∧ K r0 H0) H) : c_cmp_isNaN_uint8 C p_x K H :=
 Spec.gh (Spec.mono h fun _ H2 ⟨r0, hv, H0, hg, hk⟩ => ⟨H0, hg, r0, hv, hk⟩)
def c_strings_HasPrefix (C : Ctx) (p_s : Str) (p_prefix : Str) (K : Bool → Heap → Prop) (H : Heap) : Prop :=
 Spec Tryd.prog C 63 [sv p_s, sv p_prefix] H (fun v H2 => ∃ (r0 : Bool), v = .bool r0 ∧ K r0 H2)
theorem c_strings_HasPrefix.mono {C : Ctx} {p_s : Str} {p_prefix : Str} {K K2 : Bool → Heap → Prop} {H : Heap} (h : c_strings_HasPrefix C p_s p_prefix K H) (hk : ∀ r0 H2, K r0 H2 → K2 r0 H2) : c_strings_HasPrefix C p_s p_prefix K2 H :=
 Spec.mono h fun _ H2 ⟨r0, hv, h2⟩ => ⟨r0, hv, hk r0 H2 h2⟩
theorem c_strings_HasPrefix.gh {C : Ctx} {p_s : Str} {p_prefix : Str} {K : Bool → Heap → Prop} {H : Heap} (h : c_strings_HasPrefix C p_s p_prefix (fun r0 H2 => ∃ H0, Gh C H2 H0 ∧ K r0 H0) H) : c_strings_HasPrefix C p_s p_prefix K H :=
 Spec.gh (Spec.mono h fun _ H2 ⟨r0, hv, H0, hg, hk⟩ => ⟨H0, hg, r0, hv, hk⟩)
def c_cmp_Compare_int (C : Ctx) (p_x : Int) (p_y : Int) (K : Int → Heap → Prop) (H : Heap) : Prop :=
 Spec Tryd.prog C 64 [.int .i64 p_x, .int .i64 p_y] H (fun v H2 => ∃ (r0 : Int), v = .int .i64 r0 ∧ K r0 H2)
theorem c_cmp_Compare_int.mono {C : Ctx} {p_x : Int} {p_y : Int} {K K2 : Int → Heap → Prop} {H : Heap} (h : c_cmp_Compare_int C p_x p_y K H) (hk : ∀ r0 H2, K r0 H2 → K2 r0 H2) : c_cmp_Compare_int C p_x p_y K2 H :=
 Spec.mono h fun _ H2 ⟨r0, hv, h2⟩ => ⟨r0, hv, hk r0 H2 h2⟩
theorem c_cmp_Compare_int.gh {C : Ctx} {p_x : Int} {p_y : Int} {K : Int → Heap → Prop} {H : Heap} (h : c_cmp_Compare_int C p_x p_y (fun r0 H2 => ∃ H0, Gh C H2 H0 ∧ K r0 H0) H) : c_cmp_Compare_int C p_x p_y K H :=
 Spec.gh (Spec.mono h fun _ H2 ⟨r0, hv, H0, hg, hk⟩ => ⟨H0, hg, r0, hv, hk⟩)
def c_cmp_isNaN_string (C : Ctx) (p_x : Str) (K : Bool → Heap → Prop) (H : Heap) : Prop :=
 Spec Tryd.prog C 65 [sv p_x] H (fun v H2 => ∃ (r0 : Bool), v = .bool r0 ∧ K r0 H2)
theorem c_cmp_isNaN_string.mono {C : Ctx} {p_x : Str} {K K2 : Bool → Heap → Prop} {H : Heap} (h : c_cmp_isNaN_string C p_x K H) (hk : ∀ r0 H2, K r0 H2 → K2 r0 H2) : c_cmp_isNaN_string C p_x K2 H :=
 Spec.mono h fun _ H2 ⟨r0, hv, h2⟩ => ⟨r0, hv, hk r0 H2 h2⟩
theorem c_cmp_isNaN_string.gh {C : Ctx} {p_x : Str} {K : Bool → Heap → Prop} {H : Heap} (h : c_cmp_isNaN_string C p_x (fun r0 H2 => ∃ H0, Gh C H2 H0 ∧ K r0 H0) H) : c_cmp_isNaN_string C p_x K H :=
 Spec.gh (Spec.mono h fun _ H2 ⟨r0, hv, H0, hg, hk⟩ => ⟨H0, hg, r0, hv, hk⟩)
def c_cmp_isNaN_int64 (C : Ctx) (p_x : Int) (K : Bool → Heap → Prop) (H : Heap) : Prop :=
 Spec Tryd.prog C 66 [.int .i64 p_x] H (fun v H2 => ∃ (r0 : Bool), v = .bool r0 ∧ K r0 H2)
theorem c_cmp_isNaN_int64.mono {C : Ctx} {p_x : Int} {K K2 : Bool → Heap → Prop} {H : Heap} (h : c_cmp_isNaN_int64 C p_x K H) (hk : ∀ r0 H2, K r0 H2 → K2 r0 H2) : c_cmp_isNaN_int64 C p_x K2 H :=
 Spec.mono h fun _ H2 ⟨r0, hv, h2⟩ => ⟨r0, hv, hk r0 H2 h2⟩
theorem c_cmp_isNaN_int64.gh {C : Ctx} {p_x : Int} {K : Bool → Heap → Prop} {H : Heap} (h : c_cmp_isNaN_int64 C p_x (fun r0 H2 => ∃ H0, Gh C H2 H0 ∧ K r0 H0) H) : c_cmp_isNaN_int64 C p_x K H :=
 Spec.gh (Spec.mono h fun _ H2 ⟨r0, hv, H0, hg, hk⟩ => ⟨H0, hg, r0, hv, hk⟩)
def c_internal_stringslite_TrimPrefix (C : Ctx) (p_s : Str) (p_prefix : Str) (K : Str → Heap → Prop) (H : Heap) : Prop :=
 Spec Tryd.prog C 67 [sv p_s, sv p_prefix] H (fun v H2 => ∃ (r0 : Str), v = sv r0 ∧ K r0 H2)
theorem c_internal_stringslite_TrimPrefix.mono {C : Ctx} {p_s : Str} {p_prefix : Str} {K K2 : Str → Heap → Prop} {H : Heap} (h : c_internal_stringslite_TrimPrefix C p_s p_prefix K H) (hk : ∀ r0 H2, K r0 H2 → K2 r0 H2) : c_internal_stringslite_TrimPrefix C p_s p_prefix K2 H :=
 Spec.mono h fun _ H2 ⟨r0, hv, h2⟩ => ⟨r0, hv, hk r0 H2 h2⟩
theorem c_internal_stringslite_TrimPrefix.gh {C : Ctx} {p_s : Str} {p_prefix : Str} {K : Str → Heap → Prop} {H : Heap} (h : c_internal_stringslite_TrimPrefix C p_s p_prefix (fun r0 H2 => ∃ H0, Gh C H2 H0 ∧ K r0 H0) H) : c_internal_stringslite_TrimPrefix C p_s p_prefix K H :=
 Spec.gh (Spec.mono h fun _ H2 ⟨r0, hv, H0, hg, hk⟩ => ⟨H0, hg, r0, hv, hk⟩)
def c_strings_trimLeftByte (C : Ctx) (p_s : Str) (p_c : Int) (K : Str → Heap → Prop) (H : Heap) : Prop :=
 Spec Tryd.prog C 68 [sv p_s, .int .u8 p_c] H (fun v H2 => ∃ (r0 : Str), v = sv r0 ∧ K r0 H2)
theorem c_strings_trimLeftByte.mono {C : Ctx} {p_s : Str} {p_c : Int} {K K2 : Str → Heap → Prop} {H : Heap} (h : c_strings_trimLeftByte C p_s p_c K H) (hk : ∀ r0 H2, K r0 H2 → K2 r0 H2) : c_strings_trimLeftByte C p_s p_c K2 H :=
 Spec.mono h fun _ H2 ⟨r0, hv, h2⟩ => ⟨r0, hv, hk r0 H2 h2⟩
theorem c_strings_trimLeftByte.gh {C : Ctx} {p_s : Str} {p_c : Int} {K : Str → Heap → Prop} {H : Heap} (h : c_strings_trimLeftByte C p_s p_c (fun r0 H2 => ∃ H0, Gh C H2 H0 ∧ K r0 H0) H) : c_strings_trimLeftByte C p_s p_c K H :=
 Spec.gh (Spec.mono h fun _ H2 ⟨r0, hv, H0, hg, hk⟩ => ⟨H0, hg, r0, hv, hk⟩)
def c_strings_trimRightByte (C : Ctx) (p_s : Str) (p_c : Int) (K : Str → Heap → Prop) (H : Heap) : Prop :=
 Spec Tryd.prog C 69 [sv p_s, .int .u8 p_c] H (fun v H2 => ∃ (r0 : Str), v = sv r0 ∧ K r0 H2)
theorem c_strings_trimRightByte.mono {C : Ctx} {p_s : Str} {p_c : Int} {K K2 : Str → Heap → Prop} {H : Heap} (h : c_strings_trimRightByte C p_s p_c K H) (hk : ∀ r0 H2, K r0 H2 → K2 r0 H2) : c_strings_trimRightByte C p_s p_c K2 H :=
 Spec.mono h fun _ H2 ⟨r0, hv, h2⟩ => ⟨r0, hv, hk r0 H2 h2⟩
theorem c_strings_trimRightByte.gh {C : Ctx} {p_s : Str} {p_c : Int} {K : Str → Heap → Prop} {H : Heap} (h : c_strings_trimRightByte C p_s p_c (fun r0 H2 => ∃ H0, Gh C H2 H0 ∧ K r0 H0) H) : c_strings_trimRightByte C p_s p_c K H :=
 Spec.gh (Spec.mono h fun _ H2 ⟨r0, hv, H0, hg, hk⟩ => ⟨H0, hg, r0, hv, hk⟩)
def c_strings_makeASCIISet (C : Ctx) (p_chars : Str) (K : List Value → Bool → Heap → Prop) (H : Heap) : Prop :=
 Spec Tryd.prog C 70 [sv p_chars] H (fun v H2 => ∃ (r0 : List Value) (r1 : Bool), v = .tuple #[.agg (List.toArray r0), .bool r1] ∧ K r0 r1 H2)
theorem c_strings_makeASCIISet.mono {C : Ctx} {p_chars : Str} {K K2 : List Value → Bool → Heap → Prop} {H : Heap} (h : c_strings_makeASCIISet C p_chars K H) (hk : ∀ r0 r1 H2, K r0 r1 H2 → K2 r0 r1 H2) : c_strings_makeASCIISet C p_chars K2 H :=
 Spec.mono h fun _ H2 ⟨r0, r1, hv, h2⟩ => ⟨r0, r1, hv, hk r0 r1 H2 h2⟩
theorem c_strings_makeASCIISet.gh {C : Ctx} {p_chars : Str} {K : List Value → Bool → Heap → Prop} {H : Heap} (h : c_strings_makeASCIISet C p_chars (fun r0 r1 H2 => ∃ H0, Gh C H2 H0 ∧ K r0 r1 H0) H) : c_strings_makeASCIISet C p_chars K H :=
 Spec.gh (Spec.mono h fun _ H2 ⟨r0, r1, hv, H0, hg, hk⟩ => ⟨H0, hg, r0, r1, hv, hk⟩)
def c_strings_trimLeftASCII (C : Ctx) (p_s : Str) (p_as : Option (Nat × Nat)) (K : Str → Heap → Prop) (H : Heap) : Prop :=
 Spec Tryd.prog C 71 [sv p_s, pv p_as] H (fun v H2 => ∃ (r0 : Str), v = sv r0 ∧ K r0 H2)
theorem c_strings_trimLeftASCII.mono {C : Ctx} {p_s : Str} {p_as : Option (Nat × Nat)} {K K2 : Str → Heap → Prop} {H : Heap} (h : c_strings_trimLeftASCII C p_s p_as K H) (hk : ∀ r0 H2, K r0 H2 → K2 r0 H2) : c_strings_trimLeftASCII C p_s p_as K2 H :=
 Spec.mono h fun _ H2 ⟨r0, hv, h2⟩ => ⟨r0, hv, hk r0 H2 h2⟩
theorem c_strings_trimLeftASCII.gh {C : Ctx} {p_s : Str} {p_as : Option (Nat × Nat)} {K : Str → Heap → Prop} {H : Heap} (h : c_strings_trimLeftASCII C p_s p_as (fun r0 H2 => ∃ H0, Gh C H2 H0 ∧ K r0 H0) H) : c_strings_trimLeftASCII C p_s p_as K H :=
 Spec.gh (Spec.mono h fun _ H2 ⟨r0, hv, H0, hg, hk⟩ => ⟨H0, hg, r0, hv, hk⟩)
def c_strings_trimRightASCII (C : Ctx) (p_s : Str) (p_as : Option (Nat × Nat)) (K : Str → Heap → Prop) (H : Heap) : Prop :=
 Spec Tryd.prog C 72 [sv p_s, pv p_as] H (fun v H2 => ∃ (r0 : Str), v = sv r0 ∧ K r0 H2)
theorem c_strings_trimRightASCII.mono {C : Ctx} {p_s : Str} {p_as : Option (Nat × Nat)} {K K2 : Str → Heap → Prop} {H : Heap} (h : c_strings_trimRightASCII C p_s p_as K H) (hk : ∀ r0 H2, K r0 H2 → K2 r0 H2) : c_strings_trimRightASCII C p_s p_as K2 H :=
 Spec.mono h fun _ H2 ⟨r0, hv, h2⟩ => ⟨r0, hv, hk r0 H2 h2⟩
theorem c_strings_trimRightASCII.gh {C : Ctx} {p_s : Str} {p_as : Option (Nat × Nat)} {K : Str → Heap → Prop} {H : Heap} (h : c_strings_trimRightASCII C p_s p_as (fun r0 H2 => ∃ H0, Gh C H2 H0 ∧ K r0 H0) H) : c_strings_trimRightASCII C p_s p_as K H :=
 Spec.gh (Spec.mono h fun _ H2 ⟨r0, hv, H0, hg, hk⟩ => ⟨H0, hg, r0, hv, hk⟩)
def c_strings_trimLeftUnicode (C : Ctx) (p_s : Str) (p_cutset : Str) (K : Str → Heap → Prop) (H : Heap) : Prop :=
 Spec Tryd.prog C 73 [sv p_s, sv p_cutset] H (fun v H2 => ∃ (r0 : Str), v = sv r0 ∧ K r0 H2)
theorem c_strings_trimLeftUnicode.mono {C : Ctx} {p_s : Str} {p_cutset : Str} {K K2 : Str → Heap → Prop} {H : Heap} (h : c_strings_trimLeftUnicode C p_s p_cutset K H) (hk : ∀ r0 H2, K r0 H2 → K2 r0 H2) : c_strings_trimLeftUnicode C p_s p_cutset K2 H :=
 Spec.mono h fun _ H2 ⟨r0, hv, h2⟩ => ⟨r0, hv, hk r0 H2 h2⟩
theorem c_strings_trimLeftUnicode.gh {C : Ctx} {p_s : Str} {p_cutset : Str} {K : Str → Heap → Prop} {H : Heap} (h : c_strings_trimLeftUnicode C p_s p_cutset (fun r0 H2 => ∃ H0, Gh C H2 H0 ∧ K r0 H0) H) : c_strings_trimLeftUnicode C p_s p_cutset K H :=
 Spec.gh (Spec.mono h fun _ H2 ⟨r0, hv, H0, hg, hk⟩ => ⟨H0, hg, r0, hv, hk⟩)
def c_strings_trimRightUnicode (C : Ctx) (p_s : Str) (p_cutset : Str) (K : Str → Heap → Prop) (H : Heap) : Prop :=
 Spec Tryd.prog C 74 [sv p_s, sv p_cutset] H (fun v H2 => ∃ (r0 : Str), v = sv r0 ∧ K r0 H2)
theorem c_strings_trimRightUnicode.mono {C : Ctx} {p_s : Str} {p_cutset : Str} {K K2 : Str → Heap → Prop} {H : Heap} (h : c_strings_trimRightUnicode C p_s p_cutset K H) (hk : ∀ r0 H2, K r0 H2 → K2 r0 H2) : c_strings_trimRightUnicode C p_s p_cutset K2 H :=
 Spec.mono h fun _ H2 ⟨r0, hv, h2⟩ => ⟨r0, hv, hk r0 H2 h2⟩
theorem c_strings_trimRightUnicode.gh {C : Ctx} {p_s : Str} {p_cutset : Str} {K : Str → Heap → Prop} {H : Heap} (h : c_strings_trimRightUnicode C p_s p_cutset (fun r0 H2 => ∃ H0, Gh C H2 H0 ∧ K r0 H0) H) : c_strings_trimRightUnicode C p_s p_cutset K H :=
 Spec.gh (Spec.mono h fun _ H2 ⟨r0, hv, H0, hg, hk⟩ => ⟨H0, hg, r0, hv, hk⟩)
def c_internal_stringslite_Index (C : Ctx) (p_s : Str) (p_substr : Str) (K : Int → Heap → Prop) (H : Heap) : Prop :=
 Spec Tryd.prog C 75 [sv p_s, sv p_substr] H (fun v H2 => ∃ (r0 : Int), v = .int .i64 r0 ∧ K r0 H2)
theorem c_internal_stringslite_Index.mono {C : Ctx} {p_s : Str} {p_substr : Str} {K K2 : Int → Heap → Prop} {H : Heap} (h : c_internal_stringslite_Index C p_s p_substr K H) (hk : ∀ r0 H2, K r0 H2 → K2 r0 H2) : c_internal_stringslite_Index C p_s p_substr K2 H :=
 Spec.mono h fun _ H2 ⟨r0, hv, h2⟩ => ⟨r0, hv, hk r0 H2 h2⟩
theorem c_internal_stringslite_Index.gh {C : Ctx} {p_s : Str} {p_substr : Str} {K : Int → Heap → Prop} {H : Heap} (h : c_internal_stringslite_Index C p_s p_substr (fun r0 H2 => ∃ H0, Gh C H2 H0 ∧ K r0 H0) H) : c_internal_stringslite_Index C p_s p_substr K H :=
 Spec.gh (Spec.mono h fun _ H2 ⟨r0, hv, H0, hg, hk⟩ => ⟨H0, hg, r0, hv, hk⟩)
def c_slices_swapRangeCmpFunc_zset_Entry (C : Ctx) (p_data : Sl) (p_a : Int) (p_b : Int) (p_n : Int) (p_cmp : Value) (K : Heap → Prop) (H : Heap) : Prop :=
 Spec Tryd.prog C 76 [slv p_data, .int .i64 p_a, .int .i64 p_b, .int .i64 p_n, p_cmp] H (fun v H2 => v = .tuple #[] ∧ K H2)
theorem c_slices_swapRangeCmpFunc_zset_Entry.mono {C : Ctx} {p_data : Sl} {p_a : Int} {p_b : Int} {p_n : Int} {p_cmp : Value} {K K2 : Heap → Prop} {H : Heap} (h : c_slices_swapRangeCmpFunc_zset_Entry C p_data p_a p_b p_n p_cmp K H) (hk : ∀  H2, K  H2 → K2  H2) : c_slices_swapRangeCmpFunc_zset_Entry C p_data p_a p_b p_n p_cmp K2 H :=
 Spec.mono h fun _ H2 ⟨hv, h2⟩ => ⟨hv, hk H2 h2⟩
theorem c_slices_swapRangeCmpFunc_zset_Entry.gh {C : Ctx} {p_data : Sl} {p_a : Int} {p_b : Int} {p_n : Int} {p_cmp : Value} {K : Heap → Prop} {H : Heap} (h : c_slices_swapRangeCmpFunc_zset_Entry C p_data p_a p_b p_n p_cmp (fun  H2 => ∃ H0, Gh C H2 H0 ∧ K  H0) H) : c_slices_swapRangeCmpFunc_zset_Entry C p_data p_a p_b p_n p_cmp K H :=
 Spec.gh (Spec.mono h fun _ H2 ⟨hv, H0, hg, hk⟩ => ⟨H0, hg, hv, hk⟩)
def c_internal_stringslite_HasPrefix (C : Ctx) (p_s : Str) (p_prefix : Str) (K : Bool → Heap → Prop) (H : Heap) : Prop :=
 Spec Tryd.prog C 77 [sv p_s, sv p_prefix] H (fun v H2 => ∃ (r0 : Bool), v = .bool r0 ∧ K r0 H2)
theorem c_internal_stringslite_HasPrefix.mono {C : Ctx} {p_s : Str} {p_prefix : Str} {K K2 : Bool → Heap → Prop} {H : Heap} (h : c_internal_stringslite_HasPrefix C p_s p_prefix K H) (hk : ∀ r0 H2, K r0 H2 → K2 r0 H2) : c_internal_stringslite_HasPrefix C p_s p_prefix K2 H :=
 Spec.mono h fun _ H2 ⟨r0, hv, h2⟩ => ⟨r0, hv, hk r0 H2 h2⟩
theorem c_internal_stringslite_HasPrefix.gh {C : Ctx} {p_s : Str} {p_prefix : Str} {K : Bool → Heap → Prop} {H : Heap} (h : c_internal_stringslite_HasPrefix C p_s p_prefix (fun r0 H2 => ∃ H0, Gh C H2 H0 ∧ K r0 H0) H) : c_internal_stringslite_HasPrefix C p_s p_prefix K H :=
 Spec.gh (Spec.mono h fun _ H2 ⟨r0, hv, H0, hg, hk⟩ => ⟨H0, hg, r0, hv, hk⟩)
def c_cmp_isNaN_int (C : Ctx) (p_x : Int) (K : Bool → Heap → Prop) (H : Heap) : Prop :=
 Spec Tryd.prog C 78 [.int .i64 p_x] H (fun v H2 => ∃ (r0 : Bool), v = .bool r0 ∧ K r0 H2)
theorem c_cmp_isNaN_int.mono {C : Ctx} {p_x : Int} {K K2 : Bool → Heap → Prop} {H : Heap} (h : c_cmp_isNaN_int C p_x K H) (hk : ∀ r0 H2, K r0 H2 → K2 r0 H2) : c_cmp_isNaN_int C p_x K2 H :=
 Spec.mono h fun _ H2 ⟨r0, hv, h2⟩ => ⟨r0, hv, hk r0 H2 h2⟩
theorem c_cmp_isNaN_int.gh {C : Ctx} {p_x : Int} {K : Bool → Heap → Prop} {H : Heap} (h : c_cmp_isNaN_int C p_x (fun r0 H2 => ∃ H0, Gh C H2 H0 ∧ K r0 H0) H) : c_cmp_isNaN_int C p_x K H :=
 Spec.gh (Spec.mono h fun _ H2 ⟨r0, hv, H0, hg, hk⟩ => ⟨H0, hg, r0, hv, hk⟩)
def c_strings_asciiSet_contains (C : Ctx) (p_as : Option (Nat × Nat)) (p_c : Int) (K : Bool → Heap → Prop) (H : Heap) : Prop :=
 Spec Tryd.prog C 79 [pv p_as, .int .u8 p_c] H (fun v H2 => ∃ (r0 : Bool), v = .bool r0 ∧ K r0 H2)
theorem c_strings_asciiSet_contains.mono {C : Ctx} {p_as : Option (Nat × Nat)} {p_c : Int} {K K2 : Bool → Heap → Prop} {H : Heap} (h : c_strings_asciiSet_contains C p_as p_c K H) (hk : ∀ r0 H2, K r0 H2 → K2 r0 H2) : c_strings_asciiSet_contains C p_as p_c K2 H :=
 Spec.mono h fun _ H2 ⟨r0, hv, h2⟩ => ⟨r0, hv, hk r0 H2 h2⟩
theorem c_strings_asciiSet_contains.gh {C : Ctx} {p_as : Option (Nat × Nat)} {p_c : Int} {K : Bool → Heap → Prop} {H : Heap} (h : c_strings_asciiSet_contains C p_as p_c (fun r0 H2 => ∃ H0, Gh C H2 H0 ∧ K r0 H0) H) : c_strings_asciiSet_contains C p_as p_c K H :=
 Spec.gh (Spec.mono h fun _ H2 ⟨r0, hv, H0, hg, hk⟩ => ⟨H0, hg, r0, hv, hk⟩)
def c_internal_stringslite_IndexByte (C : Ctx) (p_s : Str) (p_c : Int) (K : Int → Heap → Prop) (H : Heap) : Prop :=
 Spec Tryd.prog C 83 [sv p_s, .int .u8 p_c] H (fun v H2 => ∃ (r0 : Int), v = .int .i64 r0 ∧ K r0 H2)
theorem c_internal_stringslite_IndexByte.mono {C : Ctx} {p_s : Str} {p_c : Int} {K K2 : Int → Heap → Prop} {H : Heap} (h : c_internal_stringslite_IndexByte C p_s p_c K H) (hk : ∀ r0 H2, K r0 H2 → K2 r0 H2) : c_internal_stringslite_IndexByte C p_s p_c K2 H :=
 Spec.mono h fun _ H2 ⟨r0, hv, h2⟩ => ⟨r0, hv, hk r0 H2 h2⟩
theorem c_internal_stringslite_IndexByte.gh {C : Ctx} {p_s : Str} {p_c : Int} {K : Int → Heap → Prop} {H : Heap} (h : c_internal_stringslite_IndexByte C p_s p_c (fun r0 H2 => ∃ H0, Gh C H2 H0 ∧ K r0 H0) H) : c_internal_stringslite_IndexByte C p_s p_c K H :=
 Spec.gh (Spec.mono h fun _ H2 ⟨r0, hv, H0, hg, hk⟩ => ⟨H0, hg, r0, hv, hk⟩)
def c_internal_bytealg_Cutover (C : Ctx) (p_n : Int) (K : Int → Heap → Prop) (H : Heap) : Prop :=
 Spec Tryd.prog C 85 [.int .i64 p_n] H (fun v H2 => ∃ (r0 : Int), v = .int .i64 r0 ∧ K r0 H2)
theorem c_internal_bytealg_Cutover.mono {C : Ctx} {p_n : Int} {K K2 : Int → Heap → Prop} {H : Heap} (h : c_internal_bytealg_Cutover C p_n K H) (hk : ∀ r0 H2, K r0 H2 → K2 r0 H2) : c_internal_bytealg_Cutover C p_n K2 H :=
 Spec.mono h fun _ H2 ⟨r0, hv, h2⟩ => ⟨r0, hv, hk r0 H2 h2⟩
theorem c_internal_bytealg_Cutover.gh {C : Ctx} {p_n : Int} {K : Int → Heap → Prop} {H : Heap} (h : c_internal_bytealg_Cutover C p_n (fun r0 H2 => ∃ H0, Gh C H2 H0 ∧ K r0 H0) H) : c_internal_bytealg_Cutover C p_n K H :=
 Spec.gh (Spec.mono h fun _ H2 ⟨r0, hv, H0, hg, hk⟩ => ⟨H0, hg, r0, hv, hk⟩)
def c_internal_bytealg_IndexRabinKarp_string (C : Ctx) (p_s : Str) (p_sep : Str) (K : Int → Heap → Prop) (H : Heap) : Prop :=
 Spec Tryd.prog C 86 [sv p_s, sv p_sep] H (fun v H2 => ∃ (r0 : Int), v = .int .i64 r0 ∧ K r0 H2)
theorem c_internal_bytealg_IndexRabinKarp_string.mono {C : Ctx} {p_s : Str} {p_sep : Str} {K K2 : Int → Heap → Prop} {H : Heap} (h : c_internal_bytealg_IndexRabinKarp_string C p_s p_sep K H) (hk : ∀ r0 H2, K r0 H2 → K2 r0 H2) : c_internal_bytealg_IndexRabinKarp_string C p_s p_sep K2 H :=
 Spec.mono h fun _ H2 ⟨r0, hv, h2⟩ => ⟨r0, hv, hk r0 H2 h2⟩
theorem c_internal_bytealg_IndexRabinKarp_string.gh {C : Ctx} {p_s : Str} {p_sep : Str} {K : Int → Heap → Prop} {H : Heap} (h : c_internal_bytealg_IndexRabinKarp_string C p_s p_sep (fun r0 H2 => ∃ H0, Gh C H2 H0 ∧ K r0 H0) H) : c_internal_bytealg_IndexRabinKarp_string C p_s p_sep K H :=
 Spec.gh (Spec.mono h fun _ H2 ⟨r0, hv, H0, hg, hk⟩ => ⟨H0, hg, r0, hv, hk⟩)
def sh_law16_ZsetGroup (C : Ctx) (p_x : Sl) (p_y : Sl) (p_z : Sl) (K : Bool → Heap → Prop) (H : Heap) : Prop :=
 c_law16_large C p_x (fun r1 H2 =>
 jn (α := Bool) (fun b3 H9 =>
 jn (α := Bool) (fun b10 H16 =>
 jn (α := Bool) (fun b17 H23 =>
 ift b17
 (c_law16_awake C (fun r25 H26 =>
 K r25 H26) H23)
 (c_law16_small C p_x (fun r27 H28 =>
 jn (α := Bool) (fun b29 H35 =>
 jn (α := Bool) (fun b36 H42 =>
 ift b36
 (K true H42)
 (c_law16_given C p_x (fun r44 H45 =>
 c_law16_given C p_y (fun r46 H47 =>
 c_law16_given C p_z (fun r48 H49 =>
 c_zset_Add C r44 r46 (fun r50 r51 H52 =>
 c_zset_Add C r46 r44 (fun r53 r54 H55 =>
 c_law16_same C r50 r51 r53 r54 (fun r56 H57 =>
 ift (!r56)
 (K false H57)
 (c_zset_Add C r50 r48 (fun r59 r60 H61 =>
 c_zset_Add C r46 r48 (fun r62 r63 H64 =>
 c_zset_Add C r44 r62 (fun r65 r66 H67 =>
 jn (α := Bool) (fun b68 H74 =>
 ift b68
 (K false H74)
 (c_zset_Less C r44 r44 (fun r76 r77 H78 =>
 c_zset_Less C r50 r46 (fun r79 r80 H81 =>
 c_zset_Clean C r44 (fun r82 r83 H84 =>
 jn (α := Bool) (fun b86 H92 =>
 K b86 H92)
 (fun J87 => ift (((r77 : Int) == 0) && (((Sl.len r76 : Int) : Int) == 0))
 (c_law16_same C r79 r80 r82 r83 (fun r90 H91 =>
 J87 r90 H91) H84)
 (J87 false H84))) H81) H78) H74))
 (fun J69 => ift ((r63 : Int) != 0)
 (J69 true H67)
 (c_law16_same C r59 r60 r65 r66 (fun r72 H73 =>
 J69 (!r72) H73) H67))) H64) H61) H57)) H55) H52) H49) H47) H45) H42))
 (fun J37 => ift b29
 (J37 true H35)
 (c_law16_small C p_z (fun r40 H41 =>
 J37 (!r40) H41) H35)))
 (fun J30 => ift (!r27)
 (J30 true H28)
 (c_law16_small C p_y (fun r33 H34 =>
 J30 (!r33) H34) H28))) H23))
 (fun J18 => ift b10
 (J18 true H16)
 (c_law16_awake C (fun r21 H22 =>
 J18 (!r21) H22) H16)))
 (fun J11 => ift b3
 (J11 true H9)
 (c_law16_large C p_z (fun r14 H15 =>
 J11 r14 H15) H9)))
 (fun J4 => ift r1
 (J4 true H2)
 (c_law16_large C p_y (fun r7 H8 =>
 J4 r7 H8) H2))) H
theorem ad_law16_ZsetGroup (C : Ctx) (p_x : Sl) (p_y : Sl) (p_z : Sl) (K : Bool → Heap → Prop) (H : Heap) (h : sh_law16_ZsetGroup C p_x p_y p_z K H) : c_law16_ZsetGroup C p_x p_y p_z K H := by
 refine Spec.enter Tryd.func4 rfl Tryd.ntmps4 rfl (GC.sub [(0, slv p_x), (1, slv p_y), (2, slv p_z)] ⟨rfl, rfl, rfl, trivial⟩ (Zo (Za (GL.nil (GC.seq (Zo (Zm (Zc h ok_law16_large ?_))))))))
 rintro _ H2 ⟨r1, rfl, h⟩
 refine Zm ?_
 obtain ⟨J4, h, hR5⟩ := h
 refine GL.cut (α := Bool) 3 J4 (fun b3 => [(26, .bool b3), (0, slv p_x), (1, slv p_y), (2, slv p_z)]) ?_ ?_
 rcases Bool.eq_false_or_eq_true r1 with hc6 | hc6
 replace h := h.1 hc6
 refine Zk hc6 (Zk hc6 (Zt hc6 ?_))
 exact GL.jump (fun _ _ h => h) true h ⟨rfl, rfl, rfl, rfl, trivial⟩
 replace h := h.2 hc6
 refine Zu hc6 (OV.move rfl) (GL.call h ⟨_, _, rfl, rfl, hc6⟩ rfl ok_law16_large (vs := [slv p_y]) rfl ?_)
 rintro _ H8 ⟨r7, rfl, h⟩
 refine Zn hc6 ?_
 exact GL.jump (fun _ _ h => h) r7 h ⟨rfl, rfl, rfl, rfl, trivial⟩
 intro b3 H9 h
 replace h := hR5 b3 H9 h
 refine Zm ?_
 obtain ⟨J11, h, hR12⟩ := h
 refine GL.cut (α := Bool) 3 J11 (fun b10 => [(30, .bool b10), (0, slv p_x), (1, slv p_y), (2, slv p_z)]) ?_ ?_
 rcases Bool.eq_false_or_eq_true b3 with hc13 | hc13
 replace h := h.1 hc13
 refine Zk hc13 (Zk hc13 (Zt hc13 ?_))
 exact GL.jump (fun _ _ h => h) true h ⟨rfl, rfl, rfl, rfl, trivial⟩
 replace h := h.2 hc13
 refine Zu hc13 (OV.move rfl) (GL.call h ⟨_, _, rfl, rfl, hc13⟩ rfl ok_law16_large (vs := [slv p_z]) rfl ?_)
 rintro _ H15 ⟨r14, rfl, h⟩
 refine Zn hc13 ?_
 exact GL.jump (fun _ _ h => h) r14 h ⟨rfl, rfl, rfl, rfl, trivial⟩
 intro b10 H16 h
 replace h := hR12 b10 H16 h
 refine Zm ?_
 obtain ⟨J18, h, hR19⟩ := h
 refine GL.cut (α := Bool) 3 J18 (fun b17 => [(34, .bool b17), (0, slv p_x), (1, slv p_y), (2, slv p_z)]) ?_ ?_
 rcases Bool.eq_false_or_eq_true b10 with hc20 | hc20
 replace h := h.1 hc20
 refine Zk hc20 (Zk hc20 (Zt hc20 ?_))
 exact GL.jump (fun _ _ h => h) true h ⟨rfl, rfl, rfl, rfl, trivial⟩
 replace h := h.2 hc20
 refine GL.call h ⟨_, _, rfl, rfl, hc20⟩ rfl ok_law16_awake (vs := []) rfl ?_
 rintro _ H22 ⟨r21, rfl, h⟩
 refine Zu hc20 (OV.not rfl) (Zn hc20 ?_)
 exact GL.jump (fun _ _ h => h) (!r21) h ⟨rfl, rfl, rfl, rfl, trivial⟩
 intro b17 H23 h
 replace h := hR19 b17 H23 h
 refine GL.nil ?_
 refine Zd (fun hc24 => ?_) fun hc24 => ?_
 replace h := h.1 hc24
 refine Zo (Zc h ok_law16_awake ?_)
 rintro _ H26 ⟨r25, rfl, h⟩
 refine Za (GL.nil ?_)
 exact GC.ret (fun _ _ hf hs => post_tmp1 rfl rfl hf hs ⟨r25, rfl, h⟩)
 replace h := h.2 hc24
 refine GC.skip (GC.seq (Zo (Zm (Zc h ok_law16_small ?_))))
 rintro _ H28 ⟨r27, rfl, h⟩
 refine Zv (OV.not rfl) (Zm ?_)
 obtain ⟨J30, h, hR31⟩ := h
 refine GL.cut (α := Bool) 4 J30 (fun b29 => [(43, .bool b29), (0, slv p_x), (1, slv p_y), (2, slv p_z)]) ?_ ?_
 rcases Zb (!r27) with hc32 | hc32
 replace h := h.1 hc32
 refine Zk hc32 (Zk hc32 (Zk hc32 (Zt hc32 ?_)))
 exact GL.jump (fun _ _ h => h) true h ⟨rfl, rfl, rfl, rfl, trivial⟩
 replace h := h.2 hc32
 refine Zu hc32 (OV.move rfl) (GL.call h ⟨_, _, rfl, rfl, hc32⟩ rfl ok_law16_small (vs := [slv p_y]) rfl ?_)
 rintro _ H34 ⟨r33, rfl, h⟩
 refine Zu hc32 (OV.not rfl) (Zn hc32 ?_)
 exact GL.jump (fun _ _ h => h) (!r33) h ⟨rfl, rfl, rfl, rfl, trivial⟩
 intro b29 H35 h
 replace h := hR31 b29 H35 h
 refine Zm ?_
 obtain ⟨J37, h, hR38⟩ := h
 refine GL.cut (α := Bool) 4 J37 (fun b36 => [(48, .bool b36), (0, slv p_x), (1, slv p_y), (2, slv p_z)]) ?_ ?_
 rcases Bool.eq_false_or_eq_true b29 with hc39 | hc39
 replace h := h.1 hc39
 refine Zk hc39 (Zk hc39 (Zk hc39 (Zt hc39 ?_)))
 exact GL.jump (fun _ _ h => h) true h ⟨rfl, rfl, rfl, rfl, trivial⟩
 replace h := h.2 hc39
 refine Zu hc39 (OV.move rfl) (GL.call h ⟨_, _, rfl, rfl, hc39⟩ rfl ok_law16_small (vs := [slv p_z]) rfl ?_)
 rintro _ H41 ⟨r40, rfl, h⟩
 refine Zu hc39 (OV.not rfl) (Zn hc39 ?_)
 exact GL.jump (fun _ _ h => h) (!r40) h ⟨rfl, rfl, rfl, rfl, trivial⟩
 intro b36 H42 h
 replace h := hR38 b36 H42 h
 refine GL.nil ?_
 refine Zd (fun hc43 => ?_) fun hc43 => ?_
 replace h := h.1 hc43
 refine Zo (Za (GL.nil ?_))
 exact GC.ret (fun _ _ hf hs => post_tmp1 rfl rfl hf hs ⟨true, rfl, h⟩)
 replace h := h.2 hc43
 refine GC.skip (Zo (Zm (Zc h ok_law16_given ?_)))
 rintro _ H45 ⟨r44, rfl, h⟩
 refine Zm (Zc h ok_law16_given ?_)
 rintro _ H47 ⟨r46, rfl, h⟩
 refine Zm (Zc h ok_law16_given ?_)
 rintro _ H49 ⟨r48, rfl, h⟩
 refine Za (Za (Za (GL.nil (Zo (Zm (Zm (Zc h ok_zset_Add ?_)))))))
 rintro _ H52 ⟨r50, r51, rfl, h⟩
 refine Zm (Zv (OV.extract (v := slv r50) rfl rfl) (Zv (OV.extract (v := .int .i64 r51) rfl rfl) (Za (Za (GL.nil (Zo (Zm (Zm (Zc h ok_zset_Add ?_)))))))))
 rintro _ H55 ⟨r53, r54, rfl, h⟩
 refine Zm (Zv (OV.extract (v := slv r53) rfl rfl) (Zv (OV.extract (v := .int .i64 r54) rfl rfl) (Za (Za (GL.nil (GC.seq (Zo (Zm (Zm (Zm (Zm ?_)))))))))))
 refine Zc h ok_law16_same ?_
 rintro _ H57 ⟨r56, rfl, h⟩
 refine Zv (OV.not rfl) (GL.nil ?_)
 refine Zd (fun hc58 => ?_) fun hc58 => ?_
 replace h := h.1 hc58
 refine Zo (Za (GL.nil ?_))
 exact GC.ret (fun _ _ hf hs => post_tmp1 rfl rfl hf hs ⟨false, rfl, h⟩)
 replace h := h.2 hc58
 refine GC.skip (Zo (Zm (Zm (Zc h ok_zset_Add ?_))))
 rintro _ H61 ⟨r59, r60, rfl, h⟩
 refine Zm (Zv (OV.extract (v := slv r59) rfl rfl) (Zv (OV.extract (v := .int .i64 r60) rfl rfl) (Za (Za (GL.nil (Zo (Zm (Zm (Zc h ok_zset_Add ?_)))))))))
 rintro _ H64 ⟨r62, r63, rfl, h⟩
 refine Zm (Zv (OV.extract (v := slv r62) rfl rfl) (Zv (OV.extract (v := .int .i64 r63) rfl rfl) (Za (Za (GL.nil (Zo (Zm (Zm (Zc h ok_zset_Add ?_)))))))))
 rintro _ H67 ⟨r65, r66, rfl, h⟩
 refine Zm (Zv (OV.extract (v := slv r65) rfl rfl) (Zv (OV.extract (v := .int .i64 r66) rfl rfl) (Za (Za (GL.nil (GC.seq (Zo (Zm (Zi (.bool ((r63 : Int) != 0)) (Zm ?_))))))))))
 obtain ⟨J69, h, hR70⟩ := h
 refine GL.cut (α := Bool) 7 J69 (fun b68 => [(100, .bool b68), (7, slv r44), (8, slv r46), (10, slv r50)]) ?_ ?_
 rcases Zb ((r63 : Int) != 0) with hc71 | hc71
 replace h := h.1 hc71
 refine Zk hc71 (Zk hc71 (Zk hc71 (Zk hc71 (Zk hc71 (Zk hc71 (Zt hc71 ?_))))))
 exact GL.jump (fun _ _ h => h) true h ⟨rfl, rfl, rfl, rfl, trivial⟩
 replace h := h.2 hc71
 refine Zu hc71 (OV.move rfl) (Zu hc71 (OV.move rfl) (Zu hc71 (OV.move rfl) (Zu hc71 (OV.move rfl) (GL.call h ⟨_, _, rfl, rfl, hc71⟩ rfl ok_law16_same (vs := [slv r59, .int .i64 r60, slv r65, .int .i64 r66]) rfl ?_))))
 rintro _ H73 ⟨r72, rfl, h⟩
 refine Zu hc71 (OV.not rfl) (Zn hc71 ?_)
 exact GL.jump (fun _ _ h => h) (!r72) h ⟨rfl, rfl, rfl, rfl, trivial⟩
 intro b68 H74 h
 replace h := hR70 b68 H74 h
 refine GL.nil ?_
 refine Zd (fun hc75 => ?_) fun hc75 => ?_
 replace h := h.1 hc75
 refine Zo (Za (GL.nil ?_))
 exact GC.ret (fun _ _ hf hs => post_tmp1 rfl rfl hf hs ⟨false, rfl, h⟩)
 replace h := h.2 hc75
 refine GC.skip (Zo (Zm (Zm (Zc h ok_zset_Less ?_))))
 rintro _ H78 ⟨r76, r77, rfl, h⟩
 refine Zm (Zv (OV.extract (v := slv r76) rfl rfl) (Zv (OV.extract (v := .int .i64 r77) rfl rfl) (Za (Za (GL.nil (Zo (Zm (Zm (Zc h ok_zset_Less ?_)))))))))
 rintro _ H81 ⟨r79, r80, rfl, h⟩
 refine Zm (Zv (OV.extract (v := slv r79) rfl rfl) (Zv (OV.extract (v := .int .i64 r80) rfl rfl) (Za (Za (GL.nil (Zo (Zm (Zc h ok_zset_Clean ?_))))))))
 rintro _ H84 ⟨r82, r83, rfl, h⟩
 refine Zm (Zv (OV.extract (v := slv r82) rfl rfl) (Zv (OV.extract (v := .int .i64 r83) rfl rfl) (Za (Za (GL.nil (Zo (Zm (Zi (.bool ((r77 : Int) == 0)) (Zm ?_)))))))))
 refine GL.cut0 4 [(124, .bool (((r77 : Int) == 0) && (((Sl.len r76 : Int) : Int) == 0))), (13, .int .i64 r80), (17, .int .i64 r83), (19, slv r79), (20, slv r82)] ?_ ?_
 rcases Zb ((r77 : Int) == 0) with hc85 | hc85
 refine Zu hc85 (OV.move rfl) (Zu hc85 (OV.lenSl rfl rfl) (Zu hc85 (OV.ibin (v := .bool (((Sl.len r76 : Int) : Int) == 0)) rfl rfl rfl) (Zt hc85 ?_)))
 exact GL.jump0 (fun _ _ h => h) () rfl ⟨(by rw [hc85]; rfl), rfl, rfl, rfl, rfl, trivial⟩
 refine Zk hc85 (Zk hc85 (Zk hc85 (Zn hc85 ?_)))
 exact GL.jump0 (fun _ _ h => h) () rfl ⟨(by rw [hc85]; rfl), rfl, rfl, rfl, rfl, trivial⟩
 refine Zm ?_
 obtain ⟨J87, h, hR88⟩ := h
 refine GL.cut (α := Bool) 6 J87 (fun b86 => [(131, .bool b86)]) ?_ ?_
 rcases Zb (((r77 : Int) == 0) && (((Sl.len r76 : Int) : Int) == 0)) with hc89 | hc89
 replace h := h.1 hc89
 refine Zu hc89 (OV.move rfl) (Zu hc89 (OV.move rfl) (Zu hc89 (OV.move rfl) (Zu hc89 (OV.move rfl) (GL.call h ⟨_, _, rfl, rfl, hc89⟩ rfl ok_law16_same (vs := [slv r79, .int .i64 r80, slv r82, .int .i64 r83]) rfl ?_))))
 rintro _ H91 ⟨r90, rfl, h⟩
 refine Zt hc89 ?_
 exact GL.jump (fun _ _ h => h) r90 h ⟨rfl, trivial⟩
 replace h := h.2 hc89
 refine Zk hc89 (Zk hc89 (Zk hc89 (Zk hc89 (Zk hc89 (Zn hc89 ?_)))))
 exact GL.jump (fun _ _ h => h) false h ⟨rfl, trivial⟩
 intro b86 H92 h
 replace h := hR88 b86 H92 h
 refine Za (GL.nil ?_)
 exact GC.ret (fun _ _ hf hs => post_tmp1 rfl rfl hf hs ⟨b86, rfl, h⟩)
def sh_zset_Clean (C : Ctx) (p_l : Sl) (K : Sl → Int → Heap → Prop) (H : Heap) : Prop :=
 nw ((T_zset_part.c (⟨p_l, (.func (.func 14) (List.toArray []) (List.toArray []) : Value)⟩ : T_zset_part)) ++ []) (fun b1 H2 =>
 c_zset_sums C (Sl.of (some (b1, 0)) 1 1) (fun r3 r4 H5 =>
 K r3 r4 H5) H2) H
theorem ad_zset_Clean (C : Ctx) (p_l : Sl) (K : Sl → Int → Heap → Prop) (H : Heap) (h : sh_zset_Clean C p_l K H) : c_zset_Clean C p_l K H := by
 refine Spec.enter Tryd.func5 rfl Tryd.ntmps5 rfl (GC.sub [(0, slv p_l)] ⟨rfl, trivial⟩ (Zo (Za (Za (GL.nil (Zo (Zm (Zv (OV.build (vs := [(0, slv p_l), (1, .func (.func 14) (List.toArray []) (List.toArray []))]) (v := .agg (T_zset_part.c (⟨p_l, (.func (.func 14) (List.toArray []) (List.toArray []) : Value)⟩ : T_zset_part)).toArray) rfl (fun _ => by kernel_rfl)) (GL.buildSlice (cs := (T_zset_part.c (⟨p_l, (.func (.func 14) (List.toArray []) (List.toArray []) : Value)⟩ : T_zset_part)) ++ []) h trivial rfl (vs := [(0, .agg (T_zset_part.c (⟨p_l, (.func (.func 14) (List.toArray []) (List.toArray []) : Value)⟩ : T_zset_part)).toArray)]) rfl ⟨41, fun _ => by kernel_rfl⟩ ?_)))))))))
 intro b1 H2 h
 refine Zc h ok_zset_sums ?_
 rintro _ H5 ⟨r3, r4, rfl, h⟩
 refine Zv (OV.extract (v := slv r3) rfl rfl) (Zv (OV.extract (v := .int .i64 r4) rfl rfl) (Za (Za (GL.nil ?_))))
 exact GC.ret (fun _ _ hf hs => post_tmp2 rfl rfl rfl hf hs ⟨r3, r4, rfl, h⟩)
def sh_zset_Less (C : Ctx) (p_a : Sl) (p_b : Sl) (K : Sl → Int → Heap → Prop) (H : Heap) : Prop :=
 nw ((T_zset_part.c (⟨p_a, (.func (.func 14) (List.toArray []) (List.toArray []) : Value)⟩ : T_zset_part)) ++ (T_zset_part.c (⟨p_b, (.func (.func 15) (List.toArray []) (List.toArray []) : Value)⟩ : T_zset_part)) ++ []) (fun b1 H2 =>
 c_zset_sums C (Sl.of (some (b1, 0)) 2 2) (fun r3 r4 H5 =>
 K r3 r4 H5) H2) H
theorem ad_zset_Less (C : Ctx) (p_a : Sl) (p_b : Sl) (K : Sl → Int → Heap → Prop) (H : Heap) (h : sh_zset_Less C p_a p_b K H) : c_zset_Less C p_a p_b K H := by
 refine Spec.enter Tryd.func6 rfl Tryd.ntmps6 rfl (GC.sub [(0, slv p_a), (1, slv p_b)] ⟨rfl, rfl, trivial⟩ (Zo (Za (Za (GL.nil (Zo (Zm (Zv (OV.build (vs := [(0, slv p_a), (1, .func (.func 14) (List.toArray []) (List.toArray []))]) (v := .agg (T_zset_part.c (⟨p_a, (.func (.func 14) (List.toArray []) (List.toArray []) : Value)⟩ : T_zset_part)).toArray) rfl (fun _ => by kernel_rfl)) (Zm (Zv (OV.build (vs := [(0, slv p_b), (1, .func (.func 15) (List.toArray []) (List.toArray []))]) (v := .agg (T_zset_part.c (⟨p_b, (.func (.func 15) (List.toArray []) (List.toArray []) : Value)⟩ : T_zset_part)).toArray) rfl (fun _ => by kernel_rfl)) (GL.buildSlice (cs := (T_zset_part.c (⟨p_a, (.func (.func 14) (List.toArray []) (List.toArray []) : Value)⟩ : T_zset_part)) ++ (T_zset_part.c (⟨p_b, (.func (.func 15) (List.toArray []) (List.toArray []) : Value)⟩ : T_zset_part)) ++ []) h trivial rfl (vs := [(0, .agg (T_zset_part.c (⟨p_a, (.func (.func 14) (List.toArray []) (List.toArray []) : Value)⟩ : T_zset_part)).toArray), (1, .agg (T_zset_part.c (⟨p_b, (.func (.func 15) (List.toArray []) (List.toArray []) : Value)⟩ : T_zset_part)).toArray)]) rfl ⟨41, fun _ => by kernel_rfl⟩ ?_)))))))))))
 intro b1 H2 h
 refine Zc h ok_zset_sums ?_
 rintro _ H5 ⟨r3, r4, rfl, h⟩
 refine Zv (OV.extract (v := slv r3) rfl rfl) (Zv (OV.extract (v := .int .i64 r4) rfl rfl) (Za (Za (GL.nil ?_))))
 exact GC.ret (fun _ _ hf hs => post_tmp2 rfl rfl rfl hf hs ⟨r3, r4, rfl, h⟩)
def sh_law16_large (C : Ctx) (p_l : Sl) (K : Bool → Heap → Prop) (H : Heap) : Prop :=
 lp (α := Int × Int) ((Sl.len p_l : Int), 0) H (fun x1 J2 H3 =>
 ift ((decide ((x1.2 : Int) < (Sl.len p_l : Int))) && (decide ((x1.1 : Int) < 500)))
 (ixa p_l x1.2 fun p6 =>
 ldL H3 ((p6.1, p6.2 + (x1.2 : Int).toNat * 2).1, (p6.1, p6.2 + (x1.2 : Int).toNat * 2).2 + 0) fun x11 =>
 lp (α := Int × Int) ((w .i64 (x1.1 + (Sl.len x11 : Int))), 0) H3 (fun x13 J14 H15 =>
 ixa p_l x1.2 fun p16 =>
 ldL H15 ((p16.1, p16.2 + (x1.2 : Int).toNat * 2).1, (p16.1, p16.2 + (x1.2 : Int).toNat * 2).2 + 0) fun x21 =>
 ift ((decide ((x13.2 : Int) < (Sl.len x21 : Int))) && (decide ((x13.1 : Int) < 500)))
 (ixa p_l x1.2 fun p25 =>
 ldL H15 ((p25.1, p25.2 + (x1.2 : Int).toNat * 2).1, (p25.1, p25.2 + (x1.2 : Int).toNat * 2).2 + 0) fun x30 =>
 ixa x30 x13.2 fun p32 =>
 ldT H15 T_api_Value.c (p32.1, p32.2 + (x13.2 : Int).toNat * 4) fun x37 =>
 c_law16_weight C x37 500 (fun r39 H40 =>
 J14 ((w .i64 (x13.1 + r39)), (w .i64 (x13.2 + 1))) H40) H15)
 (J2 (x13.1, (w .i64 (x1.2 + 1))) H15)))
 (K (decide ((x1.1 : Int) ≥ 500)) H3))
theorem ad_law16_large (C : Ctx) (p_l : Sl) (K : Bool → Heap → Prop) (H : Heap) (h : sh_law16_large C p_l K H) : c_law16_large C p_l K H := by
 refine Spec.enter Tryd.func8 rfl Tryd.ntmps8 rfl (GC.sub [(0, slv p_l)] ⟨rfl, trivial⟩ (Zo (Za (GL.nil (Zo (Zm (Zq (Za (GL.nil (GC.seq (Zo ?_)))))))))))
 refine Za (GL.nil (GC.block (GC.loop (α := Int × Int) h (fun x1 => [(3, .int .i64 x1.1), (4, .int .i64 x1.2), (0, slv p_l)]) ⟨rfl, rfl, rfl, trivial⟩ ?_)))
 intro x1 H3 J2 h
 refine GC.seq (Zo (Zm (Zm (Zq (Zi (.bool (decide ((x1.2 : Int) < (Sl.len p_l : Int)))) (Zm ?_))))))
 refine GL.cut0 3 [(15, .bool ((decide ((x1.2 : Int) < (Sl.len p_l : Int))) && (decide ((x1.1 : Int) < 500)))), (0, slv p_l), (3, .int .i64 x1.1), (4, .int .i64 x1.2)] ?_ ?_
 rcases Zb (decide ((x1.2 : Int) < (Sl.len p_l : Int))) with hc4 | hc4
 refine Zu hc4 (OV.move rfl) (Zu hc4 (OV.ibin (v := .bool (decide ((x1.1 : Int) < 500))) rfl rfl rfl) (Zt hc4 ?_))
 exact GL.jump0 (fun _ _ h => h) () rfl ⟨(by rw [hc4]; rfl), rfl, rfl, rfl, trivial⟩
 refine Zk hc4 (Zk hc4 (Zn hc4 ?_))
 exact GL.jump0 (fun _ _ h => h) () rfl ⟨(by rw [hc4]; rfl), rfl, rfl, rfl, trivial⟩
 refine GL.nil ?_
 refine Zd (fun hc5 => ?_) fun hc5 => ?_
 replace h := h.1 hc5
 refine GC.skip (GC.seq (GC.block (Zo (Zm (Zm (Zm ?_))))))
 obtain ⟨p6, ha7, hb8, hc9, hd10, h⟩ := h
 refine Zx ha7 hb8 hc9 hd10 (Zf ?_)
 obtain ⟨x11, hr12, h⟩ := h
 refine Zl hr12 (Zq (Zi (.int .i64 (w .i64 (x1.1 + (Sl.len x11 : Int)))) (Za (GL.nil (Zo (Za (GL.nil (GC.block (GC.loop (α := Int × Int) h (fun x13 => [(3, .int .i64 x13.1), (5, .int .i64 x13.2), (0, slv p_l), (4, .int .i64 x1.2)]) ⟨rfl, rfl, rfl, rfl, trivial⟩ ?_)))))))))
 intro x13 H15 J14 h
 refine GC.seq (Zo (Zm (Zm (Zm ?_))))
 obtain ⟨p16, ha17, hb18, hc19, hd20, h⟩ := h
 refine Zx ha17 hb18 hc19 hd20 (Zf ?_)
 obtain ⟨x21, hr22, h⟩ := h
 refine Zl hr22 (Zq (Zi (.bool (decide ((x13.2 : Int) < (Sl.len x21 : Int)))) (Zm ?_)))
 refine GL.cut0 3 [(37, .bool ((decide ((x13.2 : Int) < (Sl.len x21 : Int))) && (decide ((x13.1 : Int) < 500)))), (0, slv p_l), (3, .int .i64 x13.1), (4, .int .i64 x1.2), (5, .int .i64 x13.2)] ?_ ?_
 rcases Zb (decide ((x13.2 : Int) < (Sl.len x21 : Int))) with hc23 | hc23
 refine Zu hc23 (OV.move rfl) (Zu hc23 (OV.ibin (v := .bool (decide ((x13.1 : Int) < 500))) rfl rfl rfl) (Zt hc23 ?_))
 exact GL.jump0 (fun _ _ h => h) () rfl ⟨(by rw [hc23]; rfl), rfl, rfl, rfl, rfl, trivial⟩
 refine Zk hc23 (Zk hc23 (Zn hc23 ?_))
 exact GL.jump0 (fun _ _ h => h) () rfl ⟨(by rw [hc23]; rfl), rfl, rfl, rfl, rfl, trivial⟩
 refine GL.nil ?_
 refine Zd (fun hc24 => ?_) fun hc24 => ?_
 replace h := h.1 hc24
 refine GC.skip (GC.seq (GC.block (GC.region (Zm (Zm (Zm ?_))))))
 obtain ⟨p25, ha26, hb27, hc28, hd29, h⟩ := h
 refine Zx ha26 hb27 hc28 hd29 (Zf ?_)
 obtain ⟨x30, hr31, h⟩ := h
 refine Zl hr31 (Zm ?_)
 obtain ⟨p32, ha33, hb34, hc35, hd36, h⟩ := h
 refine Zx ha33 hb34 hc35 hd36 ?_
 obtain ⟨x37, hr38, h⟩ := h
 refine Zv (OV.loadT rfl rfl rfl hr38) (Zc h ok_law16_weight ?_)
 rintro _ H40 ⟨r39, rfl, h⟩
 refine Zi (.int .i64 (w .i64 (x13.1 + r39))) (Za (GL.nil_to (fun _ _ h => h) (GC.region (Zm (Zi (.int .i64 (w .i64 (x13.2 + 1))) (Za ?_))))))
 exact GL.jump (fun _ _ h => h) ((w .i64 (x13.1 + r39)), (w .i64 (x13.2 + 1))) h ⟨rfl, rfl, rfl, rfl, trivial⟩
 replace h := h.2 hc24
 refine GC.exit_to (fun _ _ h => h) (GC.region (Zm (Zi (.int .i64 (w .i64 (x1.2 + 1))) (Za ?_))))
 exact GL.jump (fun _ _ h => h) (x13.1, (w .i64 (x1.2 + 1))) h ⟨rfl, rfl, rfl, trivial⟩
 replace h := h.2 hc5
 refine GC.exit_to (fun _ _ h => h) (Zo (Zm (Zi (.bool (decide ((x1.1 : Int) ≥ 500))) (Za (GL.nil ?_)))))
 exact GC.ret (fun _ _ hf hs => post_tmp1 rfl rfl hf hs ⟨(decide ((x1.1 : Int) ≥ 500)), rfl, h⟩)
def sh_law16_small (C : Ctx) (p_l : Sl) (K : Bool → Heap → Prop) (H : Heap) : Prop :=
 lp (α := Int) 0 H (fun x1 J2 H3 =>
 ift (decide ((x1 : Int) < (Sl.len p_l : Int)))
 (ixa p_l x1 fun p5 =>
 ldI H3 .i64 ((p5.1, p5.2 + (x1 : Int).toNat * 2).1, (p5.1, p5.2 + (x1 : Int).toNat * 2).2 + 1) fun x10 =>
 jn (α := Bool) (fun b12 H23 =>
 ift b12
 (K false H23)
 (lp (α := Int) 0 H23 (fun x25 J26 H27 =>
 ixa p_l x1 fun p28 =>
 ldL H27 ((p28.1, p28.2 + (x1 : Int).toNat * 2).1, (p28.1, p28.2 + (x1 : Int).toNat * 2).2 + 0) fun x33 =>
 ift (decide ((x25 : Int) < (Sl.len x33 : Int)))
 (ixa p_l x1 fun p36 =>
 ldL H27 ((p36.1, p36.2 + (x1 : Int).toNat * 2).1, (p36.1, p36.2 + (x1 : Int).toNat * 2).2 + 0) fun x41 =>
 ixa x41 x25 fun p43 =>
 ldT H27 T_api_Value.c (p43.1, p43.2 + (x25 : Int).toNat * 4) fun x48 =>
 c_value_Check C x48 (fun r50 H51 =>
 ift ((r50 : Int) != 0)
 (K false H51)
 (J26 (w .i64 (x25 + 1)) H51)) H27)
 (J2 (w .i64 (x1 + 1)) H27))))
 (fun J13 => ift (decide ((x10 : Int) < (-1000000)))
 (J13 true H3)
 (ixa p_l x1 fun p16 =>
 ldI H3 .i64 ((p16.1, p16.2 + (x1 : Int).toNat * 2).1, (p16.1, p16.2 + (x1 : Int).toNat * 2).2 + 1) fun x21 =>
 J13 (decide ((x21 : Int) > 1000000)) H3)))
 (K true H3))
theorem ad_law16_small (C : Ctx) (p_l : Sl) (K : Bool → Heap → Prop) (H : Heap) (h : sh_law16_small C p_l K H) : c_law16_small C p_l K H := by
 refine Spec.enter Tryd.func9 rfl Tryd.ntmps9 rfl (GC.sub [(0, slv p_l)] ⟨rfl, trivial⟩ (Zo (Za (GL.nil (GC.seq (Zo (Za (GL.nil (GC.block (GC.loop (α := Int) h (fun x1 => [(3, .int .i64 x1), (0, slv p_l)]) ⟨rfl, rfl, trivial⟩ ?_))))))))))
 intro x1 H3 J2 h
 refine GC.seq (Zo (Zm (Zm (Zq (Zi (.bool (decide ((x1 : Int) < (Sl.len p_l : Int)))) (GL.nil ?_))))))
 refine Zd (fun hc4 => ?_) fun hc4 => ?_
 replace h := h.1 hc4
 refine GC.skip (GC.seq (GC.block (GC.seq (Zo (Zm (Zm ?_))))))
 obtain ⟨p5, ha6, hb7, hc8, hd9, h⟩ := h
 refine Zx ha6 hb7 hc8 hd9 (Zf ?_)
 obtain ⟨x10, hr11, h⟩ := h
 refine Zl hr11 (Zi (.bool (decide ((x10 : Int) < (-1000000)))) (Zm ?_))
 obtain ⟨J13, h, hR14⟩ := h
 refine GL.cut (α := Bool) 7 J13 (fun b12 => [(24, .bool b12), (0, slv p_l), (3, .int .i64 x1)]) ?_ ?_
 rcases Zb (decide ((x10 : Int) < (-1000000))) with hc15 | hc15
 replace h := h.1 hc15
 refine Zk hc15 (Zk hc15 (Zk hc15 (Zk hc15 (Zk hc15 (Zk hc15 (Zt hc15 ?_))))))
 exact GL.jump (fun _ _ h => h) true h ⟨rfl, rfl, rfl, trivial⟩
 replace h := h.2 hc15
 refine Zu hc15 (OV.move rfl) (Zu hc15 (OV.move rfl) ?_)
 obtain ⟨p16, ha17, hb18, hc19, hd20, h⟩ := h
 refine Zu hc15 (OV.indexAddr rfl rfl rfl rfl ha17 hb18 hc19 hd20) (Zu hc15 (OV.fieldAddr rfl rfl) ?_)
 obtain ⟨x21, hr22, h⟩ := h
 refine Zu hc15 (OV.load rfl rfl hr22) (Zu hc15 (OV.ibin (v := .bool (decide ((x21 : Int) > 1000000))) rfl rfl rfl) (Zn hc15 ?_))
 exact GL.jump (fun _ _ h => h) (decide ((x21 : Int) > 1000000)) h ⟨rfl, rfl, rfl, trivial⟩
 intro b12 H23 h
 replace h := hR14 b12 H23 h
 refine GL.nil ?_
 refine Zd (fun hc24 => ?_) fun hc24 => ?_
 replace h := h.1 hc24
 refine Zo (Za (GL.nil ?_))
 exact GC.ret (fun _ _ hf hs => post_tmp1 rfl rfl hf hs ⟨false, rfl, h⟩)
 replace h := h.2 hc24
 refine GC.skip (Zo (Za (GL.nil (GC.block (GC.loop (α := Int) h (fun x25 => [(4, .int .i64 x25), (0, slv p_l), (3, .int .i64 x1)]) ⟨rfl, rfl, rfl, trivial⟩ ?_)))))
 intro x25 H27 J26 h
 refine GC.seq (Zo (Zm (Zm (Zm ?_))))
 obtain ⟨p28, ha29, hb30, hc31, hd32, h⟩ := h
 refine Zx ha29 hb30 hc31 hd32 (Zf ?_)
 obtain ⟨x33, hr34, h⟩ := h
 refine Zl hr34 (Zq (Zi (.bool (decide ((x25 : Int) < (Sl.len x33 : Int)))) (GL.nil ?_)))
 refine Zd (fun hc35 => ?_) fun hc35 => ?_
 replace h := h.1 hc35
 refine GC.skip (GC.seq (GC.block (Zo (Zm (Zm ?_)))))
 obtain ⟨p36, ha37, hb38, hc39, hd40, h⟩ := h
 refine Zx ha37 hb38 hc39 hd40 (Zf ?_)
 obtain ⟨x41, hr42, h⟩ := h
 refine Zl hr42 (Zm ?_)
 obtain ⟨p43, ha44, hb45, hc46, hd47, h⟩ := h
 refine Zx ha44 hb45 hc46 hd47 ?_
 obtain ⟨x48, hr49, h⟩ := h
 refine Zv (OV.loadT rfl rfl rfl hr49) (Zc h ok_value_Check ?_)
 rintro _ H51 ⟨r50, rfl, h⟩
 refine Zi (.bool ((r50 : Int) != 0)) (GL.nil ?_)
 refine Zd (fun hc52 => ?_) fun hc52 => ?_
 replace h := h.1 hc52
 refine Zo (Za (GL.nil ?_))
 exact GC.ret (fun _ _ hf hs => post_tmp1 rfl rfl hf hs ⟨false, rfl, h⟩)
 replace h := h.2 hc52
 refine GC.skip_to (fun _ _ h => h) (GC.region (Zm (Zi (.int .i64 (w .i64 (x25 + 1))) (Za ?_))))
 exact GL.jump (fun _ _ h => h) (w .i64 (x25 + 1)) h ⟨rfl, rfl, rfl, trivial⟩
 replace h := h.2 hc35
 refine GC.exit_to (fun _ _ h => h) (GC.region (Zm (Zi (.int .i64 (w .i64 (x1 + 1))) (Za ?_))))
 exact GL.jump (fun _ _ h => h) (w .i64 (x1 + 1)) h ⟨rfl, rfl, trivial⟩
 replace h := h.2 hc4
 refine GC.exit_to (fun _ _ h => h) (Zo (Za (GL.nil ?_)))
 exact GC.ret (fun _ _ hf hs => post_tmp1 rfl rfl hf hs ⟨true, rfl, h⟩)
def sh_law16_given (C : Ctx) (p_l : Sl) (K : Sl → Heap → Prop) (H : Heap) : Prop :=
 lp (α := Sl × Int) (Sl.nil, 0) H (fun x1 J2 H3 =>
 ift (decide ((x1.2 : Int) < (Sl.len p_l : Int)))
 (dr H3 fun Hs5 =>
 ixa p_l x1.2 fun p7 =>
 ldL Hs5 ((p7.1, p7.2 + (x1.2 : Int).toNat * 2).1, (p7.1, p7.2 + (x1.2 : Int).toNat * 2).2 + 0) fun x12 =>
 ixa p_l x1.2 fun p14 =>
 ldI Hs5 .i64 ((p14.1, p14.2 + (x1.2 : Int).toNat * 2).1, (p14.1, p14.2 + (x1.2 : Int).toNat * 2).2 + 1) fun x19 =>
 c_ref02_Own C x12 (fun r22 H23 =>
 Heap.le Hs5 H23 ∧
 nw ((T_zset_Entry.c (⟨r22, x19⟩ : T_zset_Entry)) ++ []) (fun b25 H26 =>
 Heap.le Hs5 H26 ∧
 apS (T_zset_Entry.c T_zset_Entry.zero) 32 x1.1 (Sl.of (some (b25, 0)) 1 1) (fun r28 H29 =>
 Heap.le Hs5 H29 ∧
 J2 (r28, (w .i64 (x1.2 + 1))) H29) H26) H23) H3)
 (K x1.1 H3))
theorem ad_law16_given (C : Ctx) (p_l : Sl) (K : Sl → Heap → Prop) (H : Heap) (h : sh_law16_given C p_l K H) : c_law16_given C p_l K H := by
 refine Spec.enter Tryd.func10 rfl Tryd.ntmps10 rfl (GC.sub [(0, slv p_l)] ⟨rfl, trivial⟩ (Zo (Za (GL.nil (Zo (Za (GL.nil (GC.seq (Zo (Za (GL.nil ?_)))))))))))
 refine GC.block (GC.loop (α := Sl × Int) h (fun x1 => [(3, slv x1.1), (4, .int .i64 x1.2), (0, slv p_l)]) ⟨rfl, rfl, rfl, trivial⟩ ?_)
 intro x1 H3 J2 h
 refine GC.seq (Zo (Zm (Zm (Zq (Zi (.bool (decide ((x1.2 : Int) < (Sl.len p_l : Int)))) (GL.nil ?_))))))
 refine Zd (fun hc4 => ?_) fun hc4 => ?_
 replace h := h.1 hc4
 refine GC.skip (GC.seq (GC.block ?_))
 obtain ⟨Hs5, hle6, h⟩ := h
 refine GC.any (Hs := Hs5) (by kernel_rfl) hle6 (Zp 0 rfl (OV.move rfl) (Zp 1 rfl (OV.move rfl) (Zp 2 rfl (OV.move rfl) ?_)))
 obtain ⟨p7, ha8, hb9, hc10, hd11, h⟩ := h
 refine Zp 3 rfl (OV.indexAddr rfl rfl rfl rfl ha8 hb9 hc10 hd11) (Zp 4 rfl (OV.fieldAddr rfl rfl) ?_)
 obtain ⟨x12, hr13, h⟩ := h
 refine Zp 5 rfl (OV.load rfl rfl hr13) (Zp 7 rfl (OV.move rfl) (Zp 8 rfl (OV.move rfl) ?_))
 obtain ⟨p14, ha15, hb16, hc17, hd18, h⟩ := h
 refine Zp 9 rfl (OV.indexAddr rfl rfl rfl rfl ha15 hb16 hc17 hd18) (Zp 10 rfl (OV.fieldAddr rfl rfl) ?_)
 obtain ⟨x19, hr20, h⟩ := h
 refine Zp 11 rfl (OV.load rfl rfl hr20) (GA.eff 6 rfl (by kernel_rfl) (Zc h ok_ref02_Own ?_))
 rintro _ H23 ⟨r22, rfl, h⟩
 obtain ⟨hle21, h⟩ := h
 refine GA.back hle21 (Zp 12 rfl (OV.build (vs := [(0, slv r22), (1, .int .i64 x19)]) (v := .agg (T_zset_Entry.c (⟨r22, x19⟩ : T_zset_Entry)).toArray) rfl (fun _ => by kernel_rfl)) (GA.eff 13 rfl (by kernel_rfl) (GL.buildSlice (cs := (T_zset_Entry.c (⟨r22, x19⟩ : T_zset_Entry)) ++ []) h trivial rfl (vs := [(0, .agg (T_zset_Entry.c (⟨r22, x19⟩ : T_zset_Entry)).toArray)]) rfl ⟨30, fun _ => by kernel_rfl⟩ ?_)))
 intro b25 H26 h
 obtain ⟨hle24, h⟩ := h
 refine GA.back hle24 (GA.eff 14 rfl (by kernel_rfl) (GL.appendS (s := x1.1) (s2 := (Sl.of (some (b25, 0)) 1 1)) (zc := T_zset_Entry.c T_zset_Entry.zero) (bytes := 32) h trivial rfl rfl rfl ⟨⟨_, _, _, rfl, rfl, rfl, rfl, rfl, rfl⟩⟩ rfl ?_))
 intro r28 H29 h
 obtain ⟨hle27, h⟩ := h
 refine GA.back hle27 (Zp 15 rfl (OV.assign rfl) (GA.done (by kernel_rfl) (GL.nil_to (fun _ _ h => h) (GC.region (Zm (Zi (.int .i64 (w .i64 (x1.2 + 1))) (Za ?_)))))))
 exact GL.jump (fun _ _ h => h) (r28, (w .i64 (x1.2 + 1))) h ⟨rfl, rfl, rfl, trivial⟩
 replace h := h.2 hc4
 refine GC.exit_to (fun _ _ h => h) (Zo (Zm (Za (GL.nil ?_))))
 exact GC.ret (fun _ _ hf hs => post_tmp1 rfl rfl hf hs ⟨x1.1, rfl, h⟩)
def sh_zset_Add (C : Ctx) (p_a : Sl) (p_b : Sl) (K : Sl → Int → Heap → Prop) (H : Heap) : Prop :=
 nw ((T_zset_part.c (⟨p_a, (.func (.func 14) (List.toArray []) (List.toArray []) : Value)⟩ : T_zset_part)) ++ (T_zset_part.c (⟨p_b, (.func (.func 14) (List.toArray []) (List.toArray []) : Value)⟩ : T_zset_part)) ++ []) (fun b1 H2 =>
 c_zset_sums C (Sl.of (some (b1, 0)) 2 2) (fun r3 r4 H5 =>
 K r3 r4 H5) H2) H
theorem ad_zset_Add (C : Ctx) (p_a : Sl) (p_b : Sl) (K : Sl → Int → Heap → Prop) (H : Heap) (h : sh_zset_Add C p_a p_b K H) : c_zset_Add C p_a p_b K H := by
 refine Spec.enter Tryd.func11 rfl Tryd.ntmps11 rfl (GC.sub [(0, slv p_a), (1, slv p_b)] ⟨rfl, rfl, trivial⟩ (Zo (Za (Za (GL.nil (Zo (Zm (Zv (OV.build (vs := [(0, slv p_a), (1, .func (.func 14) (List.toArray []) (List.toArray []))]) (v := .agg (T_zset_part.c (⟨p_a, (.func (.func 14) (List.toArray []) (List.toArray []) : Value)⟩ : T_zset_part)).toArray) rfl (fun _ => by kernel_rfl)) (Zm (Zv (OV.build (vs := [(0, slv p_b), (1, .func (.func 14) (List.toArray []) (List.toArray []))]) (v := .agg (T_zset_part.c (⟨p_b, (.func (.func 14) (List.toArray []) (List.toArray []) : Value)⟩ : T_zset_part)).toArray) rfl (fun _ => by kernel_rfl)) (GL.buildSlice (cs := (T_zset_part.c (⟨p_a, (.func (.func 14) (List.toArray []) (List.toArray []) : Value)⟩ : T_zset_part)) ++ (T_zset_part.c (⟨p_b, (.func (.func 14) (List.toArray []) (List.toArray []) : Value)⟩ : T_zset_part)) ++ []) h trivial rfl (vs := [(0, .agg (T_zset_part.c (⟨p_a, (.func (.func 14) (List.toArray []) (List.toArray []) : Value)⟩ : T_zset_part)).toArray), (1, .agg (T_zset_part.c (⟨p_b, (.func (.func 14) (List.toArray []) (List.toArray []) : Value)⟩ : T_zset_part)).toArray)]) rfl ⟨41, fun _ => by kernel_rfl⟩ ?_)))))))))))
 intro b1 H2 h
 refine Zc h ok_zset_sums ?_
 rintro _ H5 ⟨r3, r4, rfl, h⟩
 refine Zv (OV.extract (v := slv r3) rfl rfl) (Zv (OV.extract (v := .int .i64 r4) rfl rfl) (Za (Za (GL.nil ?_))))
 exact GC.ret (fun _ _ hf hs => post_tmp2 rfl rfl rfl hf hs ⟨r3, r4, rfl, h⟩)
def sh_law16_same (C : Ctx) (p_a : Sl) (p_e : Int) (p_b : Sl) (p_f : Int) (K : Bool → Heap → Prop) (H : Heap) : Prop :=
 jn (α := Bool) (fun b2 H12 =>
 K b2 H12)
 (fun J3 => ift (((p_e : Int) == 0) && ((p_f : Int) == 0))
 (c_law16_back C p_a (fun r6 H7 =>
 c_law16_back C p_b (fun r8 H9 =>
 c_ref16_Same C r6 r8 (fun r10 H11 =>
 J3 r10 H11) H9) H7) H)
 (J3 false H))
theorem ad_law16_same (C : Ctx) (p_a : Sl) (p_e : Int) (p_b : Sl) (p_f : Int) (K : Bool → Heap → Prop) (H : Heap) (h : sh_law16_same C p_a p_e p_b p_f K H) : c_law16_same C p_a p_e p_b p_f K H := by
 refine Spec.enter Tryd.func12 rfl Tryd.ntmps12 rfl (GC.sub [(0, slv p_a), (1, .int .i64 p_e), (2, slv p_b), (3, .int .i64 p_f)] ⟨rfl, rfl, rfl, rfl, trivial⟩ (Zo (Za (GL.nil (Zo (Zm (Zi (.bool ((p_e : Int) == 0)) (Zm ?_))))))))
 refine GL.cut0 3 [(14, .bool (((p_e : Int) == 0) && ((p_f : Int) == 0))), (0, slv p_a), (2, slv p_b)] ?_ ?_
 rcases Zb ((p_e : Int) == 0) with hc1 | hc1
 refine Zu hc1 (OV.move rfl) (Zu hc1 (OV.ibin (v := .bool ((p_f : Int) == 0)) rfl rfl rfl) (Zt hc1 ?_))
 exact GL.jump0 (fun _ _ h => h) () rfl ⟨(by rw [hc1]; rfl), rfl, rfl, trivial⟩
 refine Zk hc1 (Zk hc1 (Zn hc1 ?_))
 exact GL.jump0 (fun _ _ h => h) () rfl ⟨(by rw [hc1]; rfl), rfl, rfl, trivial⟩
 refine Zm ?_
 obtain ⟨J3, h, hR4⟩ := h
 refine GL.cut (α := Bool) 6 J3 (fun b2 => [(21, .bool b2)]) ?_ ?_
 rcases Zb (((p_e : Int) == 0) && ((p_f : Int) == 0)) with hc5 | hc5
 replace h := h.1 hc5
 refine Zu hc5 (OV.move rfl) (GL.call h ⟨_, _, rfl, rfl, hc5⟩ rfl ok_law16_back (vs := [slv p_a]) rfl ?_)
 rintro _ H7 ⟨r6, rfl, h⟩
 refine Zu hc5 (OV.move rfl) (GL.call h ⟨_, _, rfl, rfl, hc5⟩ rfl ok_law16_back (vs := [slv p_b]) rfl ?_)
 rintro _ H9 ⟨r8, rfl, h⟩
 refine GL.call h ⟨_, _, rfl, rfl, hc5⟩ rfl ok_ref16_Same (vs := [slv r6, slv r8]) rfl ?_
 rintro _ H11 ⟨r10, rfl, h⟩
 refine Zt hc5 ?_
 exact GL.jump (fun _ _ h => h) r10 h ⟨rfl, trivial⟩
 replace h := h.2 hc5
 refine Zk hc5 (Zk hc5 (Zk hc5 (Zk hc5 (Zk hc5 (Zn hc5 ?_)))))
 exact GL.jump (fun _ _ h => h) false h ⟨rfl, trivial⟩
 intro b2 H12 h
 replace h := hR4 b2 H12 h
 refine Za (GL.nil ?_)
 exact GC.ret (fun _ _ hf hs => post_tmp1 rfl rfl hf hs ⟨b2, rfl, h⟩)
def sh_zset_sums (C : Ctx) (p_parts : Sl) (K : Sl → Int → Heap → Prop) (H : Heap) : Prop :=
 nw ([slv Sl.nil]) (fun b1 H2 =>
 nw ([.int .i64 0]) (fun b3 H4 =>
 nw ([slv Sl.nil]) (fun b5 H6 =>
 nw ([.int .i64 0]) (fun b7 H8 =>
 st (b7, 0) (.int .i64 0) (fun H9 =>
 c_zset_each C p_parts (fun r10 H11 =>
 Rf.rng Tryd.prog C r10 2 H11
 (fun yl15 r16 us K19 H20 => ∃ (u12 : T_zset_Entry) (u13 : Value), us = [.agg (T_zset_Entry.c u12).toArray, u13] ∧
 nw (T_zset_Entry.c T_zset_Entry.zero) (fun b38 H39 =>
 stT (b38, 0) (T_zset_Entry.c u12) (fun H40 =>
 H40 yl15 = some (true, Rf.lrec r16 .ready none) ∧
 ldL (Heap.put H40 yl15 (Rf.lrec r16 .busy none)) ((b38, 0).1, (b38, 0).2 + 0) fun x43 =>
 c_slices_ContainsFunc_api_Value_api_Value C x43 (.func (.func 25) (List.toArray []) (List.toArray []) : Value) (fun r45 H46 =>
 ift r45
 (st (b1, 0) (slv Sl.nil) (fun H48 =>
 st (b3, 0) (.int .i64 4) (fun H49 =>
 H49 yl15 = some (true, Rf.lrec r16 .busy none) ∧ K19 false (Heap.put H49 yl15 (Rf.lrec r16 .done (some .ret)))) H48) H46)
 (jn (α := Unit) (fun x51 H52 =>
 dr H52 fun Hs60 =>
 ldL Hs60 (b5, 0) fun x62 =>
 ldL Hs60 ((b38, 0).1, (b38, 0).2 + 0) fun x64 =>
 ldI Hs60 .i64 ((b38, 0).1, (b38, 0).2 + 1) fun x66 =>
 callU Tryd.prog C u13 [.int .i64 x66] H52 (fun v H70 => ∃ (r69 : Int), v = .int .i64 r69 ∧
 Heap.le Hs60 H70 ∧
 nw ((T_zset_Entry.c (⟨x64, r69⟩ : T_zset_Entry)) ++ []) (fun b72 H73 =>
 Heap.le Hs60 H73 ∧
 apS (T_zset_Entry.c T_zset_Entry.zero) 32 x62 (Sl.of (some (b72, 0)) 1 1) (fun r75 H76 =>
 Heap.le Hs60 H76 ∧
 st (b5, 0) (slv r75) (fun H77 =>
 H77 yl15 = some (true, Rf.lrec r16 .busy none) ∧ K19 true (Heap.put H77 yl15 (Rf.lrec r16 .ready none))) H76) H73) H70))
 (fun J50 => ldI H46 .i64 ((b38, 0).1, (b38, 0).2 + 1) fun x54 =>
 c_zset_out C x54 (fun r56 H57 =>
 ift r56
 (st (b7, 0) (.int .i64 80) (fun H59 =>
 J50 () H59) H57)
 (J50 () H57)) H46))) (Heap.put H40 yl15 (Rf.lrec r16 .busy none))) H39) H20)
 (fun D14 H227 =>
 ldI H227 .i64 (b7, 0) fun x84 =>
 ift ((x84 : Int) != 0)
 (dr H227 fun Hs87 =>
 (ldI H227 .i64 (b7, 0) fun x90 =>
 Heap.le Hs87 H227 ∧
 st (b1, 0) (slv Sl.nil) (fun H93 =>
 Heap.le Hs87 H93 ∧
 st (b3, 0) (.int .i64 x90) (fun H94 =>
 Rf.mk1 H94 D14 (fun Hm95 =>
 ldL Hm95 (b1, 0) fun x99 => ldI Hm95 .i64 (b3, 0) fun x101 =>
 K x99 x101 Hm95)) H93) H227) ∧
 (st (b1, 0) (slv Sl.nil) (fun H104 =>
 Heap.le Hs87 H104 ∧
 ldI H104 .i64 (b7, 0) fun x106 =>
 Heap.le Hs87 H104 ∧
 st (b3, 0) (.int .i64 x106) (fun H108 =>
 Rf.mk1 H108 D14 (fun Hm109 =>
 ldL Hm109 (b1, 0) fun x113 => ldI Hm109 .i64 (b3, 0) fun x115 =>
 K x113 x115 Hm109)) H104) H227))
 (ldL H227 (b5, 0) fun x117 =>
 c_slices_SortStableFunc_zset_Entry_zset_Entry C x117 (.func (.func 28) (List.toArray []) (List.toArray []) : Value) (fun H119 =>
 lp (α := Sl) Sl.nil H119 (fun x120 J121 H122 =>
 ldL H122 (b5, 0) fun x123 =>
 ift (decide (((Sl.len x123 : Int) : Int) > 0))
 (lp (α := Int × Int) (0, 0) H122 (fun x126 J127 H128 =>
 jn (α := Bool) (fun x130 H131 =>
 ift x130
 (ldL H131 (b5, 0) fun x160 =>
 ixa x160 x126.1 fun p162 =>
 ldI H131 .i64 ((p162.1, p162.2 + (x126.1 : Int).toNat * 2).1, (p162.1, p162.2 + (x126.1 : Int).toNat * 2).2 + 1) fun x167 =>
 J127 ((w .i64 (x126.1 + 1)), (w .i64 (x126.2 + x167))) H131)
 (c_zset_out C x126.2 (fun r169 H170 =>
 ift r169
 (st (b1, 0) (slv Sl.nil) (fun H172 =>
 st (b3, 0) (.int .i64 80) (fun H173 =>
 Rf.mk1 H173 D14 (fun Hm174 =>
 ldL Hm174 (b1, 0) fun x178 => ldI Hm174 .i64 (b3, 0) fun x180 =>
 K x178 x180 Hm174)) H172) H170)
 (jn (α := Sl) (fun x183 H184 =>
 ldL H184 (b5, 0) fun x200 =>
 slL x200 x126.1 (Sl.len x200 : Int) (Sl.cap x200 : Int) 2 fun t202 =>
 st (b5, 0) (slv t202) (fun H208 =>
 J121 x183 H208) H184)
 (fun J182 => ift ((x126.2 : Int) != 0)
 (ldL H170 (b5, 0) fun x187 =>
 ixa x187 0 fun p189 =>
 ldL H170 ((p189.1, p189.2 + (0 : Int).toNat * 2).1, (p189.1, p189.2 + (0 : Int).toNat * 2).2 + 0) fun x194 =>
 c_zset_own C x194 (fun r196 H197 =>
 apd (T_zset_Entry.c T_zset_Entry.zero) 32 x120 ((T_zset_Entry.c (⟨r196, x126.2⟩ : T_zset_Entry)) ++ []) 1 (fun r198 H199 =>
 J182 r198 H199) H197) H170)
 (J182 x120 H170)))) H131))
 (fun J129 => dr H128 fun Hs133 =>
 ldL Hs133 (b5, 0) fun x135 =>
 ift (decide ((x126.1 : Int) < (Sl.len x135 : Int)))
 (ldL Hs133 (b5, 0) fun x138 =>
 ixa x138 0 fun p140 =>
 ldL Hs133 ((p140.1, p140.2 + (0 : Int).toNat * 2).1, (p140.1, p140.2 + (0 : Int).toNat * 2).2 + 0) fun x145 =>
 ldL Hs133 (b5, 0) fun x147 =>
 ixa x147 x126.1 fun p149 =>
 ldL Hs133 ((p149.1, p149.2 + (x126.1 : Int).toNat * 2).1, (p149.1, p149.2 + (x126.1 : Int).toNat * 2).2 + 0) fun x154 =>
 c_value_CmpRows C x145 x154 (fun r157 H158 =>
 Heap.le Hs133 H158 ∧
 J129 ((r157 : Int) == 0) H158) H128)
 (J129 false H128))))
 (st (b1, 0) (slv x120) (fun H209 =>
 st (b3, 0) (.int .i64 0) (fun H210 =>
 Rf.mk1 H210 D14 (fun Hm211 =>
 ldL Hm211 (b1, 0) fun x215 => ldI Hm211 .i64 (b3, 0) fun x217 =>
 K x215 x217 Hm211)) H209) H122))) H227))
 (fun D14 H228 =>
 Rf.mk1 H228 D14 (fun Hm219 =>
 ldL Hm219 (b1, 0) fun x223 => ldI Hm219 .i64 (b3, 0) fun x225 =>
 K x223 x225 Hm219))) H9) H8) H6) H4) H2) H
theorem ad_zset_sums (C : Ctx) (p_parts : Sl) (K : Sl → Int → Heap → Prop) (H : Heap) (h : sh_zset_sums C p_parts K H) : c_zset_sums C p_parts K H := by
 refine Rf.Spec.enterI Tryd.func13 rfl Tryd.ntmps13 rfl ?_
 refine Rf.GI.sub [(0, slv p_parts)] ⟨rfl, trivial⟩ ?_
 refine Rf.GI.seq ?_
 refine Rf.GI.region (fun _ _ h => h) rfl ?_
 refine GL.alloc (cs := [slv Sl.nil]) h trivial rfl rfl rfl ?_
 intro b1 H2 h
 refine GL.alloc (cs := [.int .i64 0]) h trivial rfl rfl rfl ?_
 intro b3 H4 h
 refine Rf.GI.nil ?_
 refine Rf.GI.seq ?_
 refine Rf.GI.region (fun _ _ h => h) rfl ?_
 refine GL.alloc (cs := [slv Sl.nil]) h trivial rfl rfl rfl ?_
 intro b5 H6 h
 refine Rf.GI.nil ?_
 refine Rf.GI.seq ?_
 refine Rf.GI.region (fun _ _ h => h) rfl ?_
 refine GL.alloc (cs := [.int .i64 0]) h trivial rfl rfl rfl ?_
 intro b7 H8 h
 refine GL.store (p := (b7, 0)) (v := .int .i64 0) h trivial rfl rfl rfl rfl ?_
 intro H9 h
 refine Rf.GI.nil ?_
 refine Rf.GI.seq ?_
 refine Rf.GI.seq ?_
 refine Rf.GI.region (fun _ _ h => h) rfl ?_
 refine GL.val trivial rfl (OV.move (v := slv p_parts) rfl) ?_
 refine GL.call h trivial rfl ok_zset_each (vs := [slv p_parts]) rfl ?_
 rintro _ H11 ⟨r10, rfl, h⟩
 refine Rf.GI.nil ?_
 refine Rf.GI.block ?_
 obtain ⟨gf22, xb23, hv24, hok25, h⟩ := h
 refine Rf.GI.rangeFunc (gf := gf22) (xb := xb23) (congrArg some hv24) hok25 ?_
 intro D14 yl15 r16 hD26 hyl27 hne28 hr18 hra29 hrb30 hfr31
 obtain ⟨Y17, hY32, h⟩ := h D14 yl15 r16 hD26 hyl27 hne28
 have hyy36 : Rf.YldS Tryd.prog C yl15 Y17 := by
  refine Rf.YldS.rounds hfr31 (by rw [hr18]; rfl) ?_
  intro us33 K19 H20 hz37
  obtain ⟨q34, q35, h⟩ := hY32 us33 K19 H20 hz37
  refine ⟨q34, by rw [hr18]; exact q35, ?_⟩
  obtain ⟨u12, u13, rfl, h⟩ := h
  rw [hr18, hra29]
  refine Rf.GI.sub [(2, pv (some (b1, 0))), (3, pv (some (b3, 0))), (4, pv (some (b5, 0))), (5, pv (some (b7, 0))), (13, .agg (T_zset_Entry.c u12).toArray), (14, u13)] ⟨rfl, rfl, rfl, rfl, rfl, rfl, trivial⟩ ?_
  refine Rf.GI.seq ?_
  refine Rf.GI.region (fun _ _ h => h) rfl ?_
  refine GL.alloc (cs := T_zset_Entry.c T_zset_Entry.zero) h trivial rfl rfl rfl ?_
  intro b38 H39 h
  refine GL.storeT (p := (b38, 0)) (vs := T_zset_Entry.c u12) h trivial rfl rfl rfl rfl ?_
  intro H40 h
  refine Rf.GI.nil ?_
  refine Rf.GI.region (fun _ _ h => h) rfl ?_
  refine GL.val trivial rfl (OV.assign (v := u13) rfl) ?_
  obtain ⟨q41, h⟩ := h
  refine Rf.RA.mk q41 ?_
  rw [hrb30]
  refine Rf.GI.block ?_
  refine Rf.GI.seq ?_
  refine Rf.GI.seq ?_
  refine Rf.GI.region (fun _ _ h => h) rfl ?_
  refine GL.val trivial rfl (OV.fieldAddr (p := (b38, 0)) rfl rfl) ?_
  obtain ⟨x43, hr44, h⟩ := h
  refine GL.val trivial rfl (OV.load (p := ((b38, 0).1, (b38, 0).2 + 0)) rfl rfl hr44) ?_
  refine GL.call h trivial rfl ok_slices_ContainsFunc_api_Value_api_Value (vs := [slv x43, .func (.func 25) (List.toArray []) (List.toArray [])]) rfl ?_
  rintro _ H46 ⟨r45, rfl, h⟩
  refine Rf.GI.nil ?_
  refine Rf.GI.cond (b := r45) rfl (fun hc47 => ?_) (fun hc47 => ?_)
  ·replace h := And.left h hc47
   refine Rf.GI.seq ?_
   refine Rf.GI.region (fun _ _ h => h) rfl ?_
   refine GL.store (p := (b1, 0)) (v := slv Sl.nil) h trivial rfl rfl rfl rfl ?_
   intro H48 h
   refine GL.store (p := (b3, 0)) (v := .int .i64 4) h trivial rfl rfl rfl rfl ?_
   intro H49 h
   refine Rf.GI.nil ?_
   exact Rf.GI.ret (fun _ _ hf hs => ⟨_, hs, h⟩)
  ·replace h := And.right h hc47
   refine Rf.GI.skip ?_
   obtain ⟨J50, h, hR53⟩ := h
   refine Rf.GI.join (α := Unit) J50 (fun _ => [(2, pv (some (b1, 0))), (3, pv (some (b3, 0))), (4, pv (some (b5, 0))), (6, pv (some (b38, 0))), (7, u13)]) ?_ ?_
   ·skip
    refine Rf.GI.seq ?_
    refine Rf.GI.region (fun _ _ h => h) rfl ?_
    refine GL.val trivial rfl (OV.fieldAddr (p := (b38, 0)) rfl rfl) ?_
    obtain ⟨x54, hr55, h⟩ := h
    refine GL.val trivial rfl (OV.load (p := ((b38, 0).1, (b38, 0).2 + 1)) rfl rfl hr55) ?_
    refine GL.call h trivial rfl ok_zset_out (vs := [.int .i64 x54]) rfl ?_
    rintro _ H57 ⟨r56, rfl, h⟩
    refine Rf.GI.nil ?_
    refine Rf.GI.cond (b := r56) rfl (fun hc58 => ?_) (fun hc58 => ?_)
    ·replace h := And.left h hc58
     refine Rf.GI.region (fun _ _ h => h) rfl ?_
     refine GL.store (p := (b7, 0)) (v := .int .i64 80) h trivial rfl rfl rfl rfl ?_
     intro H59 h
     exact GL.jump (fun _ _ h => h) () h ⟨rfl, rfl, rfl, rfl, rfl, trivial⟩
    ·replace h := And.right h hc58
     exact Rf.GI.jump (fun _ _ h => h) () h ⟨rfl, rfl, rfl, rfl, rfl, trivial⟩
   ·intro x51 H52 h
    replace h := hR53 x51 H52 h
    obtain ⟨Hs60, hle61, h⟩ := h
    refine Rf.GI.tail (Hs := Hs60) (fun _ _ h => h) rfl 10 (by kernel_rfl) hle61 (by kernel_rfl) ?_
    obtain ⟨x62, hr63, h⟩ := h
    refine GT.take 0 rfl (by kernel_rfl) (by kernel_rfl) (by kernel_rfl) rfl (fun _ _ _ h => False.elim h) trivial rfl (OV.load (p := (b5, 0)) rfl rfl hr63) ?_
    refine GT.take 1 rfl (by kernel_rfl) (by kernel_rfl) (by kernel_rfl) rfl (fun _ _ _ h => False.elim h) trivial rfl (OV.fieldAddr (p := (b38, 0)) rfl rfl) ?_
    obtain ⟨x64, hr65, h⟩ := h
    refine GT.take 2 rfl (by kernel_rfl) (by kernel_rfl) (by kernel_rfl) rfl (fun _ _ _ h => False.elim h) trivial rfl (OV.load (p := ((b38, 0).1, (b38, 0).2 + 0)) rfl rfl hr65) ?_
    refine GT.take 3 rfl (by kernel_rfl) (by kernel_rfl) (by kernel_rfl) rfl (fun _ _ _ h => False.elim h) trivial rfl (OV.move (v := u13) rfl) ?_
    refine GT.take 4 rfl (by kernel_rfl) (by kernel_rfl) (by kernel_rfl) rfl (fun _ _ _ h => False.elim h) trivial rfl (OV.fieldAddr (p := (b38, 0)) rfl rfl) ?_
    obtain ⟨x66, hr67, h⟩ := h
    refine GT.take 5 rfl (by kernel_rfl) (by kernel_rfl) (by kernel_rfl) rfl (fun _ _ _ h => False.elim h) trivial rfl (OV.load (p := ((b38, 0).1, (b38, 0).2 + 1)) rfl rfl hr67) ?_
    refine GT.eff 6 rfl (by kernel_rfl) rfl ?_
    refine GL.callU (xv := u13) (vs := [.int .i64 x66]) h trivial rfl rfl rfl ?_
    rintro _ H70 ⟨r69, rfl, h⟩
    obtain ⟨hle68, h⟩ := h
    refine GT.back hle68 ?_
    refine GT.take 7 rfl (by kernel_rfl) (by kernel_rfl) (by kernel_rfl) rfl (fun _ _ _ h => False.elim h) trivial rfl (OV.build (vs := [(0, slv x64), (1, .int .i64 r69)]) (v := .agg (T_zset_Entry.c (⟨x64, r69⟩ : T_zset_Entry)).toArray) rfl (fun _ => by kernel_rfl)) ?_
    refine GT.eff 8 rfl (by kernel_rfl) rfl ?_
    refine GL.buildSlice (cs := (T_zset_Entry.c (⟨x64, r69⟩ : T_zset_Entry)) ++ []) h trivial rfl (vs := [(0, .agg (T_zset_Entry.c (⟨x64, r69⟩ : T_zset_Entry)).toArray)]) rfl ⟨30, fun _ => by kernel_rfl⟩ ?_
    intro b72 H73 h
    obtain ⟨hle71, h⟩ := h
    refine GT.back hle71 ?_
    refine GT.eff 9 rfl (by kernel_rfl) rfl ?_
    refine GL.appendS (s := x62) (s2 := (Sl.of (some (b72, 0)) 1 1)) (zc := T_zset_Entry.c T_zset_Entry.zero) (bytes := 32) h trivial rfl rfl rfl ⟨⟨_, _, _, rfl, rfl, rfl, rfl, rfl, rfl⟩⟩ rfl ?_
    intro r75 H76 h
    obtain ⟨hle74, h⟩ := h
    refine GT.back hle74 ?_
    refine GT.done (by kernel_rfl) ?_
    show GL _ _ _ _ _ [_] _ _
    refine GL.store (p := (b5, 0)) (v := slv r75) h trivial rfl rfl rfl rfl ?_
    intro H77 h
    exact GL.ends (fun _ _ hf hs => ⟨_, hs, h⟩)
 refine Spec.mono (h hyy36) fun u78 H79 h => ?_
 obtain ⟨st80, pend81, k82, k83, ⟨rfl, h⟩ | ⟨rfl, h⟩⟩ := h
 ·refine Rf.RK.nrm (P := Tryd.prog) k82 k83 ?_
  refine Rf.GI.nil_to (fun _ _ h => h) ?_
  refine Rf.GI.seq ?_
  refine Rf.GI.seq ?_
  refine Rf.GI.region (fun _ _ h => h) rfl ?_
  obtain ⟨x84, hr85, h⟩ := h
  refine GL.val trivial rfl (OV.load (p := (b7, 0)) rfl rfl hr85) ?_
  refine GL.val trivial rfl (OV.ibin (v := .bool ((x84 : Int) != 0)) rfl rfl rfl) ?_
  refine Rf.GI.nil ?_
  refine Rf.GI.cond (b := (x84 : Int) != 0) rfl (fun hc86 => ?_) (fun hc86 => ?_)
  ·replace h := And.left h hc86
   refine Rf.GI.seq ?_
   obtain ⟨Hs87, hle88, h⟩ := h
   refine Rf.GI.tail (Hs := Hs87) (fun _ _ h => h) rfl 2 (by kernel_rfl) hle88 (by kernel_rfl) ?_
   refine GT.effs [0, 1] (by kernel_rfl) (by simp) (List.forall_mem_cons.2 ⟨⟨_, rfl, rfl, ?_⟩, List.forall_mem_cons.2 ⟨⟨_, rfl, rfl, ?_⟩, fun _ h => by cases h⟩⟩)
   ·replace h := h.1
    obtain ⟨x90, hr91, h⟩ := h
    refine GL.val trivial rfl (OV.load (p := (b7, 0)) rfl rfl hr91) ?_
    obtain ⟨hle89, h⟩ := h
    refine GT.back hle89 ?_
    refine GT.eff 1 rfl (by kernel_rfl) rfl ?_
    refine GL.store (p := (b1, 0)) (v := slv Sl.nil) h trivial rfl rfl rfl rfl ?_
    intro H93 h
    obtain ⟨hle92, h⟩ := h
    refine GT.back hle92 ?_
    refine GT.done (by kernel_rfl) ?_
    show GL _ _ _ _ _ [_] _ _
    refine GL.store (p := (b3, 0)) (v := .int .i64 x90) h trivial rfl rfl rfl rfl ?_
    intro H94 h
    refine Rf.GI.nil ?_
    obtain ⟨Hm95, hle96, h97, hd98, h⟩ := h
    refine Rf.GI.ret (fun _ _ hf hs => ?_)
    refine Rf.post_mark1 hf hs hle96 h97 hd98 ?_
    obtain ⟨x99, hr100, h⟩ := h
    obtain ⟨x101, hr102, h⟩ := h
    exact (fun _ _ hf hs => post_res2 rfl (RV.cell (p := (b1, 0)) rfl rfl hr100) (RV.cell (p := (b3, 0)) rfl rfl hr102) hf hs ⟨x99, x101, rfl, h⟩)
   ·replace h := h.2
    refine GL.store (p := (b1, 0)) (v := slv Sl.nil) h trivial rfl rfl rfl rfl ?_
    intro H104 h
    obtain ⟨hle103, h⟩ := h
    refine GT.back hle103 ?_
    refine GT.eff 0 rfl (by kernel_rfl) rfl ?_
    obtain ⟨x106, hr107, h⟩ := h
    refine GL.val trivial rfl (OV.load (p := (b7, 0)) rfl rfl hr107) ?_
    obtain ⟨hle105, h⟩ := h
    refine GT.back hle105 ?_
    refine GT.done (by kernel_rfl) ?_
    show GL _ _ _ _ _ [_] _ _
    refine GL.store (p := (b3, 0)) (v := .int .i64 x106) h trivial rfl rfl rfl rfl ?_
    intro H108 h
    refine Rf.GI.nil ?_
    obtain ⟨Hm109, hle110, h111, hd112, h⟩ := h
    refine Rf.GI.ret (fun _ _ hf hs => ?_)
    refine Rf.post_mark1 hf hs hle110 h111 hd112 ?_
    obtain ⟨x113, hr114, h⟩ := h
    obtain ⟨x115, hr116, h⟩ := h
    exact (fun _ _ hf hs => post_res2 rfl (RV.cell (p := (b1, 0)) rfl rfl hr114) (RV.cell (p := (b3, 0)) rfl rfl hr116) hf hs ⟨x113, x115, rfl, h⟩)
  ·replace h := And.right h hc86
   refine Rf.GI.skip ?_
   refine Rf.GI.seq ?_
   refine Rf.GI.region (fun _ _ h => h) rfl ?_
   obtain ⟨x117, hr118, h⟩ := h
   refine GL.val trivial rfl (OV.load (p := (b5, 0)) rfl rfl hr118) ?_
   refine GL.call h trivial rfl ok_slices_SortStableFunc_zset_Entry_zset_Entry (vs := [slv x117, .func (.func 28) (List.toArray []) (List.toArray [])]) rfl ?_
   rintro _ H119 ⟨rfl, h⟩
   refine Rf.GI.nil ?_
   refine Rf.GI.seq ?_
   refine Rf.GI.region (fun _ _ h => h) rfl ?_
   refine GL.val trivial rfl (OV.assign (v := slv Sl.nil) rfl) ?_
   refine Rf.GI.nil ?_
   refine Rf.GI.seq ?_
   refine Rf.GI.block ?_
   refine Rf.GI.loop (α := Sl) h (fun x120 => [(8, slv x120), (2, pv (some (b1, 0))), (3, pv (some (b3, 0))), (4, pv (some (b5, 0)))]) ⟨rfl, rfl, rfl, rfl, trivial⟩ ?_
   intro x120 H122 J121 h
   refine Rf.GI.seq ?_
   refine Rf.GI.seq ?_
   refine Rf.GI.region (fun _ _ h => h) rfl ?_
   obtain ⟨x123, hr124, h⟩ := h
   refine GL.val trivial rfl (OV.load (p := (b5, 0)) rfl rfl hr124) ?_
   refine GL.val trivial rfl (OV.lenSl (s := x123) rfl rfl) ?_
   refine GL.val trivial rfl (OV.ibin (v := .bool (decide (((Sl.len x123 : Int) : Int) > 0))) rfl rfl rfl) ?_
   refine Rf.GI.nil ?_
   refine Rf.GI.cond (b := decide (((Sl.len x123 : Int) : Int) > 0)) rfl (fun hc125 => ?_) (fun hc125 => ?_)
   ·replace h := And.left h hc125
    refine Rf.GI.skip ?_
    refine Rf.GI.block ?_
    refine Rf.GI.seq ?_
    refine Rf.GI.region (fun _ _ h => h) rfl ?_
    refine GL.val trivial rfl (OV.assign (v := .int .i64 0) rfl) ?_
    refine GL.val trivial rfl (OV.assign (v := .int .i64 0) rfl) ?_
    refine Rf.GI.nil ?_
    refine Rf.GI.seq ?_
    refine Rf.GI.block ?_
    refine Rf.GI.loop (α := Int × Int) h (fun x126 => [(9, .int .i64 x126.1), (10, .int .i64 x126.2), (2, pv (some (b1, 0))), (3, pv (some (b3, 0))), (4, pv (some (b5, 0))), (8, slv x120)]) ⟨rfl, rfl, rfl, rfl, rfl, rfl, trivial⟩ ?_
    intro x126 H128 J127 h
    refine Rf.GI.seq ?_
    refine Rf.GI.seq ?_
    obtain ⟨J129, h, hR132⟩ := h
    refine Rf.GI.meet (α := Bool) J129 (fun x130 => [(55, .bool x130), (2, pv (some (b1, 0))), (3, pv (some (b3, 0))), (4, pv (some (b5, 0))), (8, slv x120), (9, .int .i64 x126.1), (10, .int .i64 x126.2)]) ?_ ?_
    ·skip
     obtain ⟨Hs133, hle134, h⟩ := h
     refine Rf.GI.any (Hs := Hs133) (fun _ _ h => h) rfl (by kernel_rfl) hle134 ?_
     refine GA.take 0 rfl (by kernel_rfl) (by kernel_rfl) (by kernel_rfl) (fun _ _ _ h => False.elim h) trivial rfl (OV.move (v := .int .i64 x126.1) rfl) ?_
     obtain ⟨x135, hr136, h⟩ := h
     refine GA.take 1 rfl (by kernel_rfl) (by kernel_rfl) (by kernel_rfl) (fun _ _ _ h => False.elim h) trivial rfl (OV.load (p := (b5, 0)) rfl rfl hr136) ?_
     refine GA.take 2 rfl (by kernel_rfl) (by kernel_rfl) (by kernel_rfl) (fun _ _ _ h => False.elim h) trivial rfl (OV.lenSl (s := x135) rfl rfl) ?_
     refine GA.take 3 rfl (by kernel_rfl) (by kernel_rfl) (by kernel_rfl) (fun _ _ _ h => False.elim h) trivial rfl (OV.ibin (v := .bool (decide ((x126.1 : Int) < (Sl.len x135 : Int)))) rfl rfl rfl) ?_
     refine GA.take 4 rfl (by kernel_rfl) (by kernel_rfl) (by kernel_rfl) (fun _ _ _ h => False.elim h) trivial rfl (OV.move (v := .bool (decide ((x126.1 : Int) < (Sl.len x135 : Int)))) rfl) ?_
     rcases Bool.eq_false_or_eq_true (decide ((x126.1 : Int) < (Sl.len x135 : Int))) with hc137 | hc137
     ·replace h := And.left h hc137
      obtain ⟨x138, hr139, h⟩ := h
      refine GA.take 5 rfl (by kernel_rfl) (by kernel_rfl) (by kernel_rfl) (fun _ _ _ h => False.elim h) ⟨_, _, rfl, rfl, hc137⟩ rfl (OV.load (p := (b5, 0)) rfl rfl hr139) ?_
      obtain ⟨p140, ha141, hb142, hc143, hd144, h⟩ := h
      refine GA.take 6 rfl (by kernel_rfl) (by kernel_rfl) (by kernel_rfl) (fun _ _ _ h => False.elim h) ⟨_, _, rfl, rfl, hc137⟩ rfl (OV.indexAddr (s := x138) rfl rfl rfl rfl ha141 hb142 hc143 hd144) ?_
      refine GA.take 7 rfl (by kernel_rfl) (by kernel_rfl) (by kernel_rfl) (fun _ _ _ h => False.elim h) ⟨_, _, rfl, rfl, hc137⟩ rfl (OV.fieldAddr (p := (p140.1, p140.2 + (0 : Int).toNat * 2)) rfl rfl) ?_
      obtain ⟨x145, hr146, h⟩ := h
      refine GA.take 8 rfl (by kernel_rfl) (by kernel_rfl) (by kernel_rfl) (fun _ _ _ h => False.elim h) ⟨_, _, rfl, rfl, hc137⟩ rfl (OV.load (p := ((p140.1, p140.2 + (0 : Int).toNat * 2).1, (p140.1, p140.2 + (0 : Int).toNat * 2).2 + 0)) rfl rfl hr146) ?_
      obtain ⟨x147, hr148, h⟩ := h
      refine GA.take 9 rfl (by kernel_rfl) (by kernel_rfl) (by kernel_rfl) (fun _ _ _ h => False.elim h) ⟨_, _, rfl, rfl, hc137⟩ rfl (OV.load (p := (b5, 0)) rfl rfl hr148) ?_
      refine GA.take 10 rfl (by kernel_rfl) (by kernel_rfl) (by kernel_rfl) (fun _ _ _ h => False.elim h) ⟨_, _, rfl, rfl, hc137⟩ rfl (OV.move (v := .int .i64 x126.1) rfl) ?_
      obtain ⟨p149, ha150, hb151, hc152, hd153, h⟩ := h
      refine GA.take 11 rfl (by kernel_rfl) (by kernel_rfl) (by kernel_rfl) (fun _ _ _ h => False.elim h) ⟨_, _, rfl, rfl, hc137⟩ rfl (OV.indexAddr (s := x147) rfl rfl rfl rfl ha150 hb151 hc152 hd153) ?_
      refine GA.take 12 rfl (by kernel_rfl) (by kernel_rfl) (by kernel_rfl) (fun _ _ _ h => False.elim h) ⟨_, _, rfl, rfl, hc137⟩ rfl (OV.fieldAddr (p := (p149.1, p149.2 + (x126.1 : Int).toNat * 2)) rfl rfl) ?_
      obtain ⟨x154, hr155, h⟩ := h
      refine GA.take 13 rfl (by kernel_rfl) (by kernel_rfl) (by kernel_rfl) (fun _ _ _ h => False.elim h) ⟨_, _, rfl, rfl, hc137⟩ rfl (OV.load (p := ((p149.1, p149.2 + (x126.1 : Int).toNat * 2).1, (p149.1, p149.2 + (x126.1 : Int).toNat * 2).2 + 0)) rfl rfl hr155) ?_
      refine GA.eff 14 rfl (by kernel_rfl) ?_
      refine GL.call h ⟨_, _, rfl, rfl, hc137⟩ rfl ok_value_CmpRows (vs := [slv x145, slv x154]) rfl ?_
      rintro _ H158 ⟨r157, rfl, h⟩
      obtain ⟨hle156, h⟩ := h
      refine GA.back hle156 ?_
      refine GA.take 15 rfl (by kernel_rfl) (by kernel_rfl) (by kernel_rfl) (fun _ _ _ h => False.elim h) ⟨_, _, rfl, rfl, hc137⟩ rfl (OV.ibin (v := .bool ((r157 : Int) == 0)) rfl rfl rfl) ?_
      refine GA.take 16 rfl (by kernel_rfl) (by kernel_rfl) (by kernel_rfl) (fun _ _ _ h => False.elim h) trivial rfl (OV.pickT (b := decide ((x126.1 : Int) < (Sl.len x135 : Int))) (v := .bool ((r157 : Int) == 0)) rfl hc137 rfl) ?_
      refine GA.done (by kernel_rfl) ?_
      exact GL.jump (fun _ _ h => h) ((r157 : Int) == 0) h ⟨rfl, rfl, rfl, rfl, rfl, rfl, rfl, trivial⟩
     ·replace h := And.right h hc137
      refine GA.skip 5 rfl (by kernel_rfl) (by kernel_rfl) (by kernel_rfl) (fun _ _ _ h => False.elim h) ⟨_, rfl, .inl ⟨_, rfl, hc137⟩⟩ rfl ?_
      refine GA.skip 6 rfl (by kernel_rfl) (by kernel_rfl) (by kernel_rfl) (fun _ _ _ h => False.elim h) ⟨_, rfl, .inl ⟨_, rfl, hc137⟩⟩ rfl ?_
      refine GA.skip 7 rfl (by kernel_rfl) (by kernel_rfl) (by kernel_rfl) (fun _ _ _ h => False.elim h) ⟨_, rfl, .inl ⟨_, rfl, hc137⟩⟩ rfl ?_
      refine GA.skip 8 rfl (by kernel_rfl) (by kernel_rfl) (by kernel_rfl) (fun _ _ _ h => False.elim h) ⟨_, rfl, .inl ⟨_, rfl, hc137⟩⟩ rfl ?_
      refine GA.skip 9 rfl (by kernel_rfl) (by kernel_rfl) (by kernel_rfl) (fun _ _ _ h => False.elim h) ⟨_, rfl, .inl ⟨_, rfl, hc137⟩⟩ rfl ?_
      refine GA.skip 10 rfl (by kernel_rfl) (by kernel_rfl) (by kernel_rfl) (fun _ _ _ h => False.elim h) ⟨_, rfl, .inl ⟨_, rfl, hc137⟩⟩ rfl ?_
      refine GA.skip 11 rfl (by kernel_rfl) (by kernel_rfl) (by kernel_rfl) (fun _ _ _ h => False.elim h) ⟨_, rfl, .inl ⟨_, rfl, hc137⟩⟩ rfl ?_
      refine GA.skip 12 rfl (by kernel_rfl) (by kernel_rfl) (by kernel_rfl) (fun _ _ _ h => False.elim h) ⟨_, rfl, .inl ⟨_, rfl, hc137⟩⟩ rfl ?_
      refine GA.skip 13 rfl (by kernel_rfl) (by kernel_rfl) (by kernel_rfl) (fun _ _ _ h => False.elim h) ⟨_, rfl, .inl ⟨_, rfl, hc137⟩⟩ rfl ?_
      refine GA.skip 14 rfl (by kernel_rfl) (by kernel_rfl) (by kernel_rfl) (fun _ _ _ h => False.elim h) ⟨_, rfl, .inl ⟨_, rfl, hc137⟩⟩ rfl ?_
      refine GA.skip 15 rfl (by kernel_rfl) (by kernel_rfl) (by kernel_rfl) (fun _ _ _ h => False.elim h) ⟨_, rfl, .inl ⟨_, rfl, hc137⟩⟩ rfl ?_
      refine GA.take 16 rfl (by kernel_rfl) (by kernel_rfl) (by kernel_rfl) (fun _ _ _ h => False.elim h) trivial rfl (OV.pickF (b := decide ((x126.1 : Int) < (Sl.len x135 : Int))) (v := .bool false) rfl hc137 rfl) ?_
      refine GA.done (by kernel_rfl) ?_
      exact GL.jump (fun _ _ h => h) false h ⟨rfl, rfl, rfl, rfl, rfl, rfl, rfl, trivial⟩
    ·intro x130 H131 h
     replace h := hR132 x130 H131 h
     refine Rf.GI.nil ?_
     refine Rf.GI.cond (b := x130) rfl (fun hc159 => ?_) (fun hc159 => ?_)
     ·replace h := And.left h hc159
      refine Rf.GI.skip ?_
      refine Rf.GI.block ?_
      refine Rf.GI.seq ?_
      refine Rf.GI.region (fun _ _ h => h) rfl ?_
      refine GL.val trivial rfl (OV.move (v := .int .i64 x126.2) rfl) ?_
      obtain ⟨x160, hr161, h⟩ := h
      refine GL.val trivial rfl (OV.load (p := (b5, 0)) rfl rfl hr161) ?_
      refine GL.val trivial rfl (OV.move (v := .int .i64 x126.1) rfl) ?_
      obtain ⟨p162, ha163, hb164, hc165, hd166, h⟩ := h
      refine GL.val trivial rfl (OV.indexAddr (s := x160) rfl rfl rfl rfl ha163 hb164 hc165 hd166) ?_
      refine GL.val trivial rfl (OV.fieldAddr (p := (p162.1, p162.2 + (x126.1 : Int).toNat * 2)) rfl rfl) ?_
      obtain ⟨x167, hr168, h⟩ := h
      refine GL.val trivial rfl (OV.load (p := ((p162.1, p162.2 + (x126.1 : Int).toNat * 2).1, (p162.1, p162.2 + (x126.1 : Int).toNat * 2).2 + 1)) rfl rfl hr168) ?_
      refine GL.val trivial rfl (OV.ibin (v := .int .i64 (w .i64 (x126.2 + x167))) rfl rfl rfl) ?_
      refine GL.val trivial rfl (OV.assign (v := .int .i64 (w .i64 (x126.2 + x167))) rfl) ?_
      refine Rf.GI.nil ?_
      refine Rf.GI.region (fun _ _ h => h) rfl ?_
      refine GL.val trivial rfl (OV.move (v := .int .i64 x126.1) rfl) ?_
      refine GL.val trivial rfl (OV.ibin (v := .int .i64 (w .i64 (x126.1 + 1))) rfl rfl rfl) ?_
      refine GL.val trivial rfl (OV.assign (v := .int .i64 (w .i64 (x126.1 + 1))) rfl) ?_
      exact GL.jump (fun _ _ h => h) ((w .i64 (x126.1 + 1)), (w .i64 (x126.2 + x167))) h ⟨rfl, rfl, rfl, rfl, rfl, rfl, trivial⟩
     ·replace h := And.right h hc159
      refine Rf.GI.exit_to (fun _ _ h => h) ?_
      refine Rf.GI.seq ?_
      refine Rf.GI.seq ?_
      refine Rf.GI.region (fun _ _ h => h) rfl ?_
      refine GL.val trivial rfl (OV.move (v := .int .i64 x126.2) rfl) ?_
      refine GL.call h trivial rfl ok_zset_out (vs := [.int .i64 x126.2]) rfl ?_
      rintro _ H170 ⟨r169, rfl, h⟩
      refine Rf.GI.nil ?_
      refine Rf.GI.cond (b := r169) rfl (fun hc171 => ?_) (fun hc171 => ?_)
      ·replace h := And.left h hc171
       refine Rf.GI.seq ?_
       refine Rf.GI.region (fun _ _ h => h) rfl ?_
       refine GL.store (p := (b1, 0)) (v := slv Sl.nil) h trivial rfl rfl rfl rfl ?_
       intro H172 h
       refine GL.store (p := (b3, 0)) (v := .int .i64 80) h trivial rfl rfl rfl rfl ?_
       intro H173 h
       refine Rf.GI.nil ?_
       obtain ⟨Hm174, hle175, h176, hd177, h⟩ := h
       refine Rf.GI.ret (fun _ _ hf hs => ?_)
       refine Rf.post_mark1 hf hs hle175 h176 hd177 ?_
       obtain ⟨x178, hr179, h⟩ := h
       obtain ⟨x180, hr181, h⟩ := h
       exact (fun _ _ hf hs => post_res2 rfl (RV.cell (p := (b1, 0)) rfl rfl hr179) (RV.cell (p := (b3, 0)) rfl rfl hr181) hf hs ⟨x178, x180, rfl, h⟩)
      ·replace h := And.right h hc171
       refine Rf.GI.skip ?_
       obtain ⟨J182, h, hR185⟩ := h
       refine Rf.GI.join (α := Sl) J182 (fun x183 => [(8, slv x183), (2, pv (some (b1, 0))), (3, pv (some (b3, 0))), (4, pv (some (b5, 0))), (9, .int .i64 x126.1)]) ?_ ?_
       ·skip
        refine Rf.GI.seq ?_
        refine Rf.GI.region (fun _ _ h => h) rfl ?_
        refine GL.val trivial rfl (OV.move (v := .int .i64 x126.2) rfl) ?_
        refine GL.val trivial rfl (OV.ibin (v := .bool ((x126.2 : Int) != 0)) rfl rfl rfl) ?_
        refine Rf.GI.nil ?_
        refine Rf.GI.cond (b := (x126.2 : Int) != 0) rfl (fun hc186 => ?_) (fun hc186 => ?_)
        ·replace h := And.left h hc186
         refine Rf.GI.region (fun _ _ h => h) rfl ?_
         refine GL.val trivial rfl (OV.move (v := slv x120) rfl) ?_
         obtain ⟨x187, hr188, h⟩ := h
         refine GL.val trivial rfl (OV.load (p := (b5, 0)) rfl rfl hr188) ?_
         obtain ⟨p189, ha190, hb191, hc192, hd193, h⟩ := h
         refine GL.val trivial rfl (OV.indexAddr (s := x187) rfl rfl rfl rfl ha190 hb191 hc192 hd193) ?_
         refine GL.val trivial rfl (OV.fieldAddr (p := (p189.1, p189.2 + (0 : Int).toNat * 2)) rfl rfl) ?_
         obtain ⟨x194, hr195, h⟩ := h
         refine GL.val trivial rfl (OV.load (p := ((p189.1, p189.2 + (0 : Int).toNat * 2).1, (p189.1, p189.2 + (0 : Int).toNat * 2).2 + 0)) rfl rfl hr195) ?_
         refine GL.call h trivial rfl ok_zset_own (vs := [slv x194]) rfl ?_
         rintro _ H197 ⟨r196, rfl, h⟩
         refine GL.val trivial rfl (OV.move (v := .int .i64 x126.2) rfl) ?_
         refine GL.val trivial rfl (OV.build (vs := [(0, slv r196), (1, .int .i64 x126.2)]) (v := .agg (T_zset_Entry.c (⟨r196, x126.2⟩ : T_zset_Entry)).toArray) rfl (fun _ => by kernel_rfl)) ?_
         refine GL.appendLit (s := x120) (ys := (T_zset_Entry.c (⟨r196, x126.2⟩ : T_zset_Entry)) ++ []) (zc := T_zset_Entry.c T_zset_Entry.zero) (bytes := 32) h trivial rfl (fun _ => trivial) rfl (fun _ => rfl) (fun _ => rfl) (vs := [(0, .agg (T_zset_Entry.c (⟨r196, x126.2⟩ : T_zset_Entry)).toArray)]) rfl ⟨30, fun _ => by kernel_rfl⟩ ⟨⟨_, _, _, rfl, rfl, rfl, rfl, rfl, rfl⟩⟩ rfl rfl ?_
         intro _ r198 H199 h
         refine GL.val trivial rfl (OV.assign (v := slv r198) rfl) ?_
         exact GL.jump (fun _ _ h => h) r198 h ⟨rfl, rfl, rfl, rfl, rfl, trivial⟩
        ·replace h := And.right h hc186
         exact Rf.GI.jump (fun _ _ h => h) x120 h ⟨rfl, rfl, rfl, rfl, rfl, trivial⟩
       ·intro x183 H184 h
        replace h := hR185 x183 H184 h
        refine Rf.GI.region (fun _ _ h => h) rfl ?_
        obtain ⟨x200, hr201, h⟩ := h
        refine GL.val trivial rfl (OV.load (p := (b5, 0)) rfl rfl hr201) ?_
        refine GL.val trivial rfl (OV.move (v := .int .i64 x126.1) rfl) ?_
        obtain ⟨h203, h204, h205, h206, t202, h207, h⟩ := h
        refine GL.val trivial rfl (OV.sliceSl (s := x200) h203 h204 h205 h206 h207 rfl rfl rfl rfl rfl rfl rfl (fun h => by first | rfl | cases h) rfl rfl) ?_
        refine GL.store (p := (b5, 0)) (v := slv t202) h trivial rfl rfl rfl rfl ?_
        intro H208 h
        exact GL.jump (fun _ _ h => h) x183 h ⟨rfl, rfl, rfl, rfl, trivial⟩
   ·replace h := And.right h hc125
    refine Rf.GI.exit_to (fun _ _ h => h) ?_
    refine Rf.GI.seq ?_
    refine Rf.GI.region (fun _ _ h => h) rfl ?_
    refine GL.val trivial rfl (OV.move (v := slv x120) rfl) ?_
    refine GL.store (p := (b1, 0)) (v := slv x120) h trivial rfl rfl rfl rfl ?_
    intro H209 h
    refine GL.store (p := (b3, 0)) (v := .int .i64 0) h trivial rfl rfl rfl rfl ?_
    intro H210 h
    refine Rf.GI.nil ?_
    obtain ⟨Hm211, hle212, h213, hd214, h⟩ := h
    refine Rf.GI.ret (fun _ _ hf hs => ?_)
    refine Rf.post_mark1 hf hs hle212 h213 hd214 ?_
    obtain ⟨x215, hr216, h⟩ := h
    obtain ⟨x217, hr218, h⟩ := h
    exact (fun _ _ hf hs => post_res2 rfl (RV.cell (p := (b1, 0)) rfl rfl hr216) (RV.cell (p := (b3, 0)) rfl rfl hr218) hf hs ⟨x215, x217, rfl, h⟩)
 ·refine Rf.RK.ret k82 k83 ?_
  obtain ⟨Hm219, hle220, h221, hd222, h⟩ := h
  refine (fun _ _ hf hs => ?_)
  refine Rf.post_mark1 hf hs hle220 h221 hd222 ?_
  obtain ⟨x223, hr224, h⟩ := h
  obtain ⟨x225, hr226, h⟩ := h
  exact (fun _ _ hf hs => post_res2 rfl (RV.cell (p := (b1, 0)) rfl rfl hr224) (RV.cell (p := (b3, 0)) rfl rfl hr226) hf hs ⟨x223, x225, rfl, h⟩)
def sh_zset_as (C : Ctx) (p_n : Int) (K : Int → Heap → Prop) (H : Heap) : Prop :=
 K p_n H
theorem ad_zset_as (C : Ctx) (p_n : Int) (K : Int → Heap → Prop) (H : Heap) (h : sh_zset_as C p_n K H) : c_zset_as C p_n K H := by
 refine Spec.enter Tryd.func14 rfl Tryd.ntmps14 rfl (GC.sub [(0, .int .i64 p_n)] ⟨rfl, trivial⟩ (Zo (Za (GL.nil (Zo (Zm (Za (GL.nil ?_))))))))
 exact GC.ret (fun _ _ hf hs => post_tmp1 rfl rfl hf hs ⟨p_n, rfl, h⟩)
def sh_zset_turn (C : Ctx) (p_n : Int) (K : Int → Heap → Prop) (H : Heap) : Prop :=
 K (w .i64 (0 - p_n)) H
theorem ad_zset_turn (C : Ctx) (p_n : Int) (K : Int → Heap → Prop) (H : Heap) (h : sh_zset_turn C p_n K H) : c_zset_turn C p_n K H := by
 refine Spec.enter Tryd.func15 rfl Tryd.ntmps15 rfl (GC.sub [(0, .int .i64 p_n)] ⟨rfl, trivial⟩ (Zo (Za (GL.nil (Zo (Zm (Zv (OV.iun (v := .int .i64 (w .i64 (0 - p_n))) rfl rfl) (Za (GL.nil ?_)))))))))
 exact GC.ret (fun _ _ hf hs => post_tmp1 rfl rfl hf hs ⟨(w .i64 (0 - p_n)), rfl, h⟩)
def sh_value_CmpRows (C : Ctx) (p_a : Sl) (p_b : Sl) (K : Int → Heap → Prop) (H : Heap) : Prop :=
 c_value_may C p_a (fun r1 H2 =>
 c_value_may C p_b (fun r3 H4 =>
 ift ((!r1) || (!r3))
 (c_value_last C r1 r3 (fun r7 H8 =>
 K r7 H8) H4)
 (c_value_rows C p_a p_b (fun r9 H10 =>
 K r9 H10) H4)) H2) H
theorem ad_value_CmpRows (C : Ctx) (p_a : Sl) (p_b : Sl) (K : Int → Heap → Prop) (H : Heap) (h : sh_value_CmpRows C p_a p_b K H) : c_value_CmpRows C p_a p_b K H := by
 refine Spec.enter Tryd.func17 rfl Tryd.ntmps17 rfl (GC.sub [(0, slv p_a), (1, slv p_b)] ⟨rfl, rfl, trivial⟩ (Zo (Za (GL.nil (GC.seq (Zo (Zm (Zc h ok_value_may ?_))))))))
 rintro _ H2 ⟨r1, rfl, h⟩
 refine Zm (Zc h ok_value_may ?_)
 rintro _ H4 ⟨r3, rfl, h⟩
 refine Za (Za (GL.nil (Zo (Zm (Zv (OV.not rfl) (Zm ?_))))))
 refine GL.cut0 3 [(16, .bool ((!r1) || (!r3))), (0, slv p_a), (1, slv p_b), (5, .bool r1), (6, .bool r3)] ?_ ?_
 rcases Zb (!r1) with hc5 | hc5
 refine Zk hc5 (Zk hc5 (Zt hc5 ?_))
 exact GL.jump0 (fun _ _ h => h) () rfl ⟨(by rw [hc5]; rfl), rfl, rfl, rfl, rfl, trivial⟩
 refine Zu hc5 (OV.move rfl) (Zu hc5 (OV.not rfl) (Zn hc5 ?_))
 exact GL.jump0 (fun _ _ h => h) () rfl ⟨(by rw [hc5]; rfl), rfl, rfl, rfl, rfl, trivial⟩
 refine GL.nil ?_
 refine Zd (fun hc6 => ?_) fun hc6 => ?_
 replace h := h.1 hc6
 refine Zo (Zm (Zm (Zc h ok_value_last ?_)))
 rintro _ H8 ⟨r7, rfl, h⟩
 refine Za (GL.nil ?_)
 exact GC.ret (fun _ _ hf hs => post_tmp1 rfl rfl hf hs ⟨r7, rfl, h⟩)
 replace h := h.2 hc6
 refine GC.skip (Zo (Zm (Zm (Zc h ok_value_rows ?_))))
 rintro _ H10 ⟨r9, rfl, h⟩
 refine Za (GL.nil ?_)
 exact GC.ret (fun _ _ hf hs => post_tmp1 rfl rfl hf hs ⟨r9, rfl, h⟩)
def sh_law16_weight (C : Ctx) (p_v : T_api_Value) (p_most : Int) (K : Int → Heap → Prop) (H : Heap) : Prop :=
 nw (T_api_Value.c p_v) (fun b1 H2 =>
 ldS H2 ((b1, 0).1, (b1, 0).2 + 2) fun x3 =>
 lp (α := Int × Int) ((w .i64 (1 + (w .i64 (Int.tdiv (List.length x3 : Int) 50)))), 0) H2 (fun x5 J6 H7 =>
 ldL H7 ((b1, 0).1, (b1, 0).2 + 3) fun x8 =>
 ift ((decide ((x5.2 : Int) < (Sl.len x8 : Int))) && (decide ((x5.1 : Int) < p_most)))
 (ldL H7 ((b1, 0).1, (b1, 0).2 + 3) fun x12 =>
 ixa x12 x5.2 fun p14 =>
 ldT H7 T_api_Value.c (p14.1, p14.2 + (x5.2 : Int).toNat * 4) fun x19 =>
 c_law16_weight C x19 (w .i64 (p_most - x5.1)) (fun r21 H22 =>
 J6 ((w .i64 (x5.1 + r21)), (w .i64 (x5.2 + 1))) H22) H7)
 (K x5.1 H7))) H
theorem ad_law16_weight (C : Ctx) (p_v : T_api_Value) (p_most : Int) (K : Int → Heap → Prop) (H : Heap) (h : sh_law16_weight C p_v p_most K H) : c_law16_weight C p_v p_most K H := by
 refine Spec.enter Tryd.func18 rfl Tryd.ntmps18 rfl (GC.sub [(0, .agg (T_api_Value.c p_v).toArray), (1, .int .i64 p_most)] ⟨rfl, rfl, trivial⟩ (Zo (GL.box (v := .agg (T_api_Value.c p_v).toArray) (cs := T_api_Value.c p_v) h trivial rfl rfl rfl ?_)))
 intro b1 H2 h
 refine Za (GL.nil (Zo (Zf ?_)))
 obtain ⟨x3, hr4, h⟩ := h
 refine Zl hr4 (Zr (Zv (OV.quo rfl rfl (by decide)) (Zi (.int .i64 (w .i64 (1 + (w .i64 (Int.tdiv (List.length x3 : Int) 50))))) (Za (GL.nil (GC.seq (Zo (Za (GL.nil (GC.block (GC.loop (α := Int × Int) h (fun x5 => [(5, .int .i64 x5.1), (6, .int .i64 x5.2), (1, .int .i64 p_most), (2, pv (some (b1, 0)))]) ⟨rfl, rfl, rfl, rfl, trivial⟩ ?_)))))))))))
 intro x5 H7 J6 h
 refine GC.seq (Zo (Zm (Zf ?_)))
 obtain ⟨x8, hr9, h⟩ := h
 refine Zl hr9 (Zq (Zi (.bool (decide ((x5.2 : Int) < (Sl.len x8 : Int)))) (Zm ?_)))
 refine GL.cut0 4 [(21, .bool ((decide ((x5.2 : Int) < (Sl.len x8 : Int))) && (decide ((x5.1 : Int) < p_most)))), (1, .int .i64 p_most), (2, pv (some (b1, 0))), (5, .int .i64 x5.1), (6, .int .i64 x5.2)] ?_ ?_
 rcases Zb (decide ((x5.2 : Int) < (Sl.len x8 : Int))) with hc10 | hc10
 refine Zu hc10 (OV.move rfl) (Zu hc10 (OV.move rfl) (Zu hc10 (OV.ibin (v := .bool (decide ((x5.1 : Int) < p_most))) rfl rfl rfl) (Zt hc10 ?_)))
 exact GL.jump0 (fun _ _ h => h) () rfl ⟨(by rw [hc10]; rfl), rfl, rfl, rfl, rfl, trivial⟩
 refine Zk hc10 (Zk hc10 (Zk hc10 (Zn hc10 ?_)))
 exact GL.jump0 (fun _ _ h => h) () rfl ⟨(by rw [hc10]; rfl), rfl, rfl, rfl, rfl, trivial⟩
 refine GL.nil ?_
 refine Zd (fun hc11 => ?_) fun hc11 => ?_
 replace h := h.1 hc11
 refine GC.skip (GC.seq (GC.block (GC.region (Zm (Zf ?_)))))
 obtain ⟨x12, hr13, h⟩ := h
 refine Zl hr13 (Zm ?_)
 obtain ⟨p14, ha15, hb16, hc17, hd18, h⟩ := h
 refine Zx ha15 hb16 hc17 hd18 ?_
 obtain ⟨x19, hr20, h⟩ := h
 refine Zv (OV.loadT rfl rfl rfl hr20) (Zm (Zm (Zi (.int .i64 (w .i64 (p_most - x5.1))) (Zc h ok_law16_weight ?_))))
 rintro _ H22 ⟨r21, rfl, h⟩
 refine Zi (.int .i64 (w .i64 (x5.1 + r21))) (Za (GL.nil_to (fun _ _ h => h) (GC.region (Zm (Zi (.int .i64 (w .i64 (x5.2 + 1))) (Za ?_))))))
 exact GL.jump (fun _ _ h => h) ((w .i64 (x5.1 + r21)), (w .i64 (x5.2 + 1))) h ⟨rfl, rfl, rfl, rfl, trivial⟩
 replace h := h.2 hc11
 refine GC.exit_to (fun _ _ h => h) (Zo (Zm (Za (GL.nil ?_))))
 exact GC.ret (fun _ _ hf hs => post_tmp1 rfl rfl hf hs ⟨x5.1, rfl, h⟩)
def sh_value_Check (C : Ctx) (p_v : T_api_Value) (K : Int → Heap → Prop) (H : Heap) : Prop :=
 nw (T_api_Value.c p_v) (fun b1 H2 =>
 ldT H2 T_api_Value.c (b1, 0) fun x3 =>
 c_value_depth C x3 65 (fun r5 H6 =>
 ift (decide ((r5 : Int) > 64))
 (K 65 H6)
 (ldT H6 T_api_Value.c (b1, 0) fun x8 =>
 c_value_item_look C x8 (fun r10 r11 H12 =>
 ift (!r10)
 (K 4 H12)
 (ift (!r11)
 (K 40 H12)
 (K 0 H12))) H6)) H2) H
theorem ad_value_Check (C : Ctx) (p_v : T_api_Value) (K : Int → Heap → Prop) (H : Heap) (h : sh_value_Check C p_v K H) : c_value_Check C p_v K H := by
 refine Spec.enter Tryd.func19 rfl Tryd.ntmps19 rfl (GC.sub [(0, .agg (T_api_Value.c p_v).toArray)] ⟨rfl, trivial⟩ (Zo (GL.box (v := .agg (T_api_Value.c p_v).toArray) (cs := T_api_Value.c p_v) h trivial rfl rfl rfl ?_)))
 intro b1 H2 h
 refine Za (GL.nil (GC.seq (Zo ?_)))
 obtain ⟨x3, hr4, h⟩ := h
 refine Zv (OV.loadT rfl rfl rfl hr4) (Zc h ok_value_depth ?_)
 rintro _ H6 ⟨r5, rfl, h⟩
 refine Zi (.bool (decide ((r5 : Int) > 64))) (GL.nil ?_)
 refine Zd (fun hc7 => ?_) fun hc7 => ?_
 replace h := h.1 hc7
 refine Zo (Za (GL.nil ?_))
 exact GC.ret (fun _ _ hf hs => post_tmp1 rfl rfl hf hs ⟨65, rfl, h⟩)
 replace h := h.2 hc7
 refine GC.skip (GC.seq (Zo ?_))
 obtain ⟨x8, hr9, h⟩ := h
 refine Zv (OV.loadT rfl rfl rfl hr9) (Zc h ok_value_item_look ?_)
 rintro _ H12 ⟨r10, r11, rfl, h⟩
 refine Zm (Zv (OV.extract (v := .bool r10) rfl rfl) (Zv (OV.extract (v := .bool r11) rfl rfl) (Za (Za (GL.nil (GC.block (Zo (Zm (Zv (OV.not rfl) (Za (GL.nil ?_)))))))))))
 refine Zd (fun hc13 => ?_) fun hc13 => ?_
 replace h := h.1 hc13
 refine Zo (Za (GL.nil ?_))
 exact GC.ret (fun _ _ hf hs => post_tmp1 rfl rfl hf hs ⟨4, rfl, h⟩)
 replace h := h.2 hc13
 refine Zo (Zm (Zv (OV.not rfl) (Za (GL.nil ?_))))
 refine Zd (fun hc14 => ?_) fun hc14 => ?_
 replace h := h.1 hc14
 refine Zo (Za (GL.nil ?_))
 exact GC.ret (fun _ _ hf hs => post_tmp1 rfl rfl hf hs ⟨40, rfl, h⟩)
 replace h := h.2 hc14
 refine GC.skip_to (fun _ _ h => h) (Zo (Za (GL.nil ?_)))
 exact GC.ret (fun _ _ hf hs => post_tmp1 rfl rfl hf hs ⟨0, rfl, h⟩)
def sh_ref02_Own (C : Ctx) (p_l : Sl) (K : Sl → Heap → Prop) (H : Heap) : Prop :=
 lp (α := Sl × Int) (Sl.nil, 0) H (fun x1 J2 H3 =>
 ift (decide ((x1.2 : Int) < (Sl.len p_l : Int)))
 (ixa p_l x1.2 fun p5 =>
 ldT H3 T_api_Value.c (p5.1, p5.2 + (x1.2 : Int).toNat * 4) fun x10 =>
 nw (T_api_Value.c T_api_Value.zero) (fun b12 H13 =>
 stT (b12, 0) (T_api_Value.c x10) (fun H14 =>
 ldL H14 ((b12, 0).1, (b12, 0).2 + 3) fun x15 =>
 c_ref02_Own C x15 (fun r17 H18 =>
 st ((b12, 0).1, (b12, 0).2 + 3) (slv r17) (fun H19 =>
 ldT H19 T_api_Value.c (b12, 0) fun x20 =>
 apd (T_api_Value.c T_api_Value.zero) 56 x1.1 ((T_api_Value.c x20) ++ []) 1 (fun r22 H23 =>
 J2 (r22, (w .i64 (x1.2 + 1))) H23) H19) H18) H14) H13) H3)
 (K x1.1 H3))
theorem ad_ref02_Own (C : Ctx) (p_l : Sl) (K : Sl → Heap → Prop) (H : Heap) (h : sh_ref02_Own C p_l K H) : c_ref02_Own C p_l K H := by
 refine Spec.enter Tryd.func20 rfl Tryd.ntmps20 rfl (GC.sub [(0, slv p_l)] ⟨rfl, trivial⟩ (Zo (Za (GL.nil (Zo (Za (GL.nil (GC.seq (Zo (Za (GL.nil ?_)))))))))))
 refine GC.block (GC.loop (α := Sl × Int) h (fun x1 => [(3, slv x1.1), (4, .int .i64 x1.2), (0, slv p_l)]) ⟨rfl, rfl, rfl, trivial⟩ ?_)
 intro x1 H3 J2 h
 refine GC.seq (Zo (Zm (Zm (Zq (Zi (.bool (decide ((x1.2 : Int) < (Sl.len p_l : Int)))) (GL.nil ?_))))))
 refine Zd (fun hc4 => ?_) fun hc4 => ?_
 replace h := h.1 hc4
 refine GC.skip (GC.seq (GC.block (Zo (Zm (Zm ?_)))))
 obtain ⟨p5, ha6, hb7, hc8, hd9, h⟩ := h
 refine Zx ha6 hb7 hc8 hd9 ?_
 obtain ⟨x10, hr11, h⟩ := h
 refine Zv (OV.loadT rfl rfl rfl hr11) (GL.alloc (cs := T_api_Value.c T_api_Value.zero) h trivial rfl rfl rfl ?_)
 intro b12 H13 h
 refine GL.storeT (p := (b12, 0)) (vs := T_api_Value.c x10) h trivial rfl rfl rfl rfl ?_
 intro H14 h
 refine GL.nil (Zo (Zf ?_))
 obtain ⟨x15, hr16, h⟩ := h
 refine Zl hr16 (Zc h ok_ref02_Own ?_)
 rintro _ H18 ⟨r17, rfl, h⟩
 refine Zf (GL.store (p := ((b12, 0).1, (b12, 0).2 + 3)) (v := slv r17) h trivial rfl rfl rfl rfl ?_)
 intro H19 h
 refine GL.nil (GC.region (Zm ?_))
 obtain ⟨x20, hr21, h⟩ := h
 refine Zv (OV.loadT rfl rfl rfl hr21) (GL.appendLit (s := x1.1) (ys := (T_api_Value.c x20) ++ []) (zc := T_api_Value.c T_api_Value.zero) (bytes := 56) h trivial rfl (fun _ => trivial) rfl (fun _ => rfl) (fun _ => rfl) (vs := [(0, .agg (T_api_Value.c x20).toArray)]) rfl ⟨24, fun _ => by kernel_rfl⟩ ⟨⟨_, _, _, rfl, rfl, rfl, rfl, rfl, rfl⟩⟩ rfl rfl ?_)
 intro _ r22 H23 h
 refine Za (GL.nil_to (fun _ _ h => h) (GC.region (Zm (Zi (.int .i64 (w .i64 (x1.2 + 1))) (Za ?_)))))
 exact GL.jump (fun _ _ h => h) (r22, (w .i64 (x1.2 + 1))) h ⟨rfl, rfl, rfl, trivial⟩
 replace h := h.2 hc4
 refine GC.exit_to (fun _ _ h => h) (Zo (Zm (Za (GL.nil ?_))))
 exact GC.ret (fun _ _ hf hs => post_tmp1 rfl rfl hf hs ⟨x1.1, rfl, h⟩)
def sh_ref16_Same (C : Ctx) (p_a : Sl) (p_b : Sl) (K : Bool → Heap → Prop) (H : Heap) : Prop :=
 ift (((Sl.len p_a : Int) : Int) != (Sl.len p_b : Int))
 (K false H)
 (lp (α := Int) 0 H (fun x2 J3 H4 =>
 ift (decide ((x2 : Int) < (Sl.len p_a : Int)))
 (jn (α := Bool) (fun x7 H8 =>
 ift x7
 (K false H8)
 (J3 (w .i64 (x2 + 1)) H8))
 (fun J6 => dr H4 fun Hs10 =>
 ixa p_a x2 fun p12 =>
 ldI Hs10 .i64 ((p12.1, p12.2 + (x2 : Int).toNat * 2).1, (p12.1, p12.2 + (x2 : Int).toNat * 2).2 + 1) fun x17 =>
 ixa p_b x2 fun p19 =>
 ldI Hs10 .i64 ((p19.1, p19.2 + (x2 : Int).toNat * 2).1, (p19.1, p19.2 + (x2 : Int).toNat * 2).2 + 1) fun x24 =>
 ift ((x17 : Int) != x24)
 (J6 true H4)
 (ixa p_a x2 fun p27 =>
 ldL Hs10 ((p27.1, p27.2 + (x2 : Int).toNat * 2).1, (p27.1, p27.2 + (x2 : Int).toNat * 2).2 + 0) fun x32 =>
 ixa p_b x2 fun p34 =>
 ldL Hs10 ((p34.1, p34.2 + (x2 : Int).toNat * 2).1, (p34.1, p34.2 + (x2 : Int).toNat * 2).2 + 0) fun x39 =>
 c_ref02_SameRow C x32 x39 (fun r42 H43 =>
 Heap.le Hs10 H43 ∧
 J6 (!r42) H43) H4)))
 (K true H4)))
theorem ad_ref16_Same (C : Ctx) (p_a : Sl) (p_b : Sl) (K : Bool → Heap → Prop) (H : Heap) (h : sh_ref16_Same C p_a p_b K H) : c_ref16_Same C p_a p_b K H := by
 refine Spec.enter Tryd.func21 rfl Tryd.ntmps21 rfl (GC.sub [(0, slv p_a), (1, slv p_b)] ⟨rfl, rfl, trivial⟩ (Zo (Za (GL.nil (GC.seq (Zo (Zm (Zq (Zm (Zq (Zi (.bool (((Sl.len p_a : Int) : Int) != (Sl.len p_b : Int))) ?_)))))))))))
 refine GL.nil ?_
 refine Zd (fun hc1 => ?_) fun hc1 => ?_
 replace h := h.1 hc1
 refine Zo (Za (GL.nil ?_))
 exact GC.ret (fun _ _ hf hs => post_tmp1 rfl rfl hf hs ⟨false, rfl, h⟩)
 replace h := h.2 hc1
 refine GC.skip (GC.seq (Zo (Za (GL.nil (GC.block (GC.loop (α := Int) h (fun x2 => [(5, .int .i64 x2), (0, slv p_a), (1, slv p_b)]) ⟨rfl, rfl, rfl, trivial⟩ ?_))))))
 intro x2 H4 J3 h
 refine GC.seq (Zo (Zm (Zm (Zq (Zi (.bool (decide ((x2 : Int) < (Sl.len p_a : Int)))) (GL.nil ?_))))))
 refine Zd (fun hc5 => ?_) fun hc5 => ?_
 replace h := h.1 hc5
 refine GC.skip (GC.seq (GC.block (GC.seq ?_)))
 obtain ⟨J6, h, hR9⟩ := h
 refine GC.meet (α := Bool) J6 (fun x7 => [(41, .bool x7), (0, slv p_a), (1, slv p_b), (5, .int .i64 x2)]) ?_ ?_
 obtain ⟨Hs10, hle11, h⟩ := h
 refine GC.any (Hs := Hs10) (by kernel_rfl) hle11 (Zp 0 rfl (OV.move rfl) (Zp 1 rfl (OV.move rfl) ?_))
 obtain ⟨p12, ha13, hb14, hc15, hd16, h⟩ := h
 refine Zp 2 rfl (OV.indexAddr rfl rfl rfl rfl ha13 hb14 hc15 hd16) (Zp 3 rfl (OV.fieldAddr rfl rfl) ?_)
 obtain ⟨x17, hr18, h⟩ := h
 refine Zp 4 rfl (OV.load rfl rfl hr18) (Zp 5 rfl (OV.move rfl) (Zp 6 rfl (OV.move rfl) ?_))
 obtain ⟨p19, ha20, hb21, hc22, hd23, h⟩ := h
 refine Zp 7 rfl (OV.indexAddr rfl rfl rfl rfl ha20 hb21 hc22 hd23) (Zp 8 rfl (OV.fieldAddr rfl rfl) ?_)
 obtain ⟨x24, hr25, h⟩ := h
 refine Zp 9 rfl (OV.load rfl rfl hr25) (Zp 10 rfl (OV.ibin (v := .bool ((x17 : Int) != x24)) rfl rfl rfl) (Zp 11 rfl (OV.move rfl) ?_))
 rcases Zb ((x17 : Int) != x24) with hc26 | hc26
 replace h := h.1 hc26
 refine Zj 12 rfl ⟨_, rfl, .inl ⟨_, rfl, hc26⟩⟩ (Zj 13 rfl ⟨_, rfl, .inl ⟨_, rfl, hc26⟩⟩ (Zj 14 rfl ⟨_, rfl, .inl ⟨_, rfl, hc26⟩⟩ (Zj 15 rfl ⟨_, rfl, .inl ⟨_, rfl, hc26⟩⟩ (Zj 16 rfl ⟨_, rfl, .inl ⟨_, rfl, hc26⟩⟩ (Zj 17 rfl ⟨_, rfl, .inl ⟨_, rfl, hc26⟩⟩ (Zj 18 rfl ⟨_, rfl, .inl ⟨_, rfl, hc26⟩⟩ (Zj 19 rfl ⟨_, rfl, .inl ⟨_, rfl, hc26⟩⟩ (Zj 20 rfl ⟨_, rfl, .inl ⟨_, rfl, hc26⟩⟩ (Zj 21 rfl ⟨_, rfl, .inl ⟨_, rfl, hc26⟩⟩ (Zj 22 rfl ⟨_, rfl, .inl ⟨_, rfl, hc26⟩⟩ (Zj 23 rfl ⟨_, rfl, .inl ⟨_, rfl, hc26⟩⟩ ?_)))))))))))
 refine Zp 24 rfl (OV.pickT rfl hc26 rfl) (GA.done (by kernel_rfl) ?_)
 exact GL.jump (fun _ _ h => h) true h ⟨rfl, rfl, rfl, rfl, trivial⟩
 replace h := h.2 hc26
 refine Zg 12 rfl ⟨_, _, rfl, rfl, hc26⟩ (OV.move rfl) (Zg 13 rfl ⟨_, _, rfl, rfl, hc26⟩ (OV.move rfl) ?_)
 obtain ⟨p27, ha28, hb29, hc30, hd31, h⟩ := h
 refine Zg 14 rfl ⟨_, _, rfl, rfl, hc26⟩ (OV.indexAddr rfl rfl rfl rfl ha28 hb29 hc30 hd31) (Zg 15 rfl ⟨_, _, rfl, rfl, hc26⟩ (OV.fieldAddr rfl rfl) ?_)
 obtain ⟨x32, hr33, h⟩ := h
 refine Zg 16 rfl ⟨_, _, rfl, rfl, hc26⟩ (OV.load rfl rfl hr33) (Zg 17 rfl ⟨_, _, rfl, rfl, hc26⟩ (OV.move rfl) (Zg 18 rfl ⟨_, _, rfl, rfl, hc26⟩ (OV.move rfl) ?_))
 obtain ⟨p34, ha35, hb36, hc37, hd38, h⟩ := h
 refine Zg 19 rfl ⟨_, _, rfl, rfl, hc26⟩ (OV.indexAddr rfl rfl rfl rfl ha35 hb36 hc37 hd38) (Zg 20 rfl ⟨_, _, rfl, rfl, hc26⟩ (OV.fieldAddr rfl rfl) ?_)
 obtain ⟨x39, hr40, h⟩ := h
 refine Zg 21 rfl ⟨_, _, rfl, rfl, hc26⟩ (OV.load rfl rfl hr40) (GA.eff 22 rfl (by kernel_rfl) (GL.call h ⟨_, _, rfl, rfl, hc26⟩ rfl ok_ref02_SameRow (vs := [slv x32, slv x39]) rfl ?_))
 rintro _ H43 ⟨r42, rfl, h⟩
 obtain ⟨hle41, h⟩ := h
 refine GA.back hle41 (Zg 23 rfl ⟨_, _, rfl, rfl, hc26⟩ (OV.not rfl) (Zp 24 rfl (OV.pickF rfl hc26 rfl) (GA.done (by kernel_rfl) ?_)))
 exact GL.jump (fun _ _ h => h) (!r42) h ⟨rfl, rfl, rfl, rfl, trivial⟩
 intro x7 H8 h
 replace h := hR9 x7 H8 h
 refine GL.nil ?_
 refine Zd (fun hc44 => ?_) fun hc44 => ?_
 replace h := h.1 hc44
 refine Zo (Za (GL.nil ?_))
 exact GC.ret (fun _ _ hf hs => post_tmp1 rfl rfl hf hs ⟨false, rfl, h⟩)
 replace h := h.2 hc44
 refine GC.skip_to (fun _ _ h => h) (GC.region (Zm (Zi (.int .i64 (w .i64 (x2 + 1))) (Za ?_))))
 exact GL.jump (fun _ _ h => h) (w .i64 (x2 + 1)) h ⟨rfl, rfl, rfl, trivial⟩
 replace h := h.2 hc5
 refine GC.exit_to (fun _ _ h => h) (Zo (Za (GL.nil ?_)))
 exact GC.ret (fun _ _ hf hs => post_tmp1 rfl rfl hf hs ⟨true, rfl, h⟩)
def sh_law16_back (C : Ctx) (p_l : Sl) (K : Sl → Heap → Prop) (H : Heap) : Prop :=
 lp (α := Sl × Int) (Sl.nil, 0) H (fun x1 J2 H3 =>
 ift (decide ((x1.2 : Int) < (Sl.len p_l : Int)))
 (dr H3 fun Hs5 =>
 ixa p_l x1.2 fun p7 =>
 ldL Hs5 ((p7.1, p7.2 + (x1.2 : Int).toNat * 2).1, (p7.1, p7.2 + (x1.2 : Int).toNat * 2).2 + 0) fun x12 =>
 ixa p_l x1.2 fun p14 =>
 ldI Hs5 .i64 ((p14.1, p14.2 + (x1.2 : Int).toNat * 2).1, (p14.1, p14.2 + (x1.2 : Int).toNat * 2).2 + 1) fun x19 =>
 nw ((T_zset_Entry.c (⟨x12, x19⟩ : T_zset_Entry)) ++ []) (fun b22 H23 =>
 Heap.le Hs5 H23 ∧
 apS (T_zset_Entry.c T_zset_Entry.zero) 32 x1.1 (Sl.of (some (b22, 0)) 1 1) (fun r25 H26 =>
 Heap.le Hs5 H26 ∧
 J2 (r25, (w .i64 (x1.2 + 1))) H26) H23) H3)
 (K x1.1 H3))
theorem ad_law16_back (C : Ctx) (p_l : Sl) (K : Sl → Heap → Prop) (H : Heap) (h : sh_law16_back C p_l K H) : c_law16_back C p_l K H := by
 refine Spec.enter Tryd.func22 rfl Tryd.ntmps22 rfl (GC.sub [(0, slv p_l)] ⟨rfl, trivial⟩ (Zo (Za (GL.nil (Zo (Za (GL.nil (GC.seq (Zo (Za (GL.nil ?_)))))))))))
 refine GC.block (GC.loop (α := Sl × Int) h (fun x1 => [(3, slv x1.1), (4, .int .i64 x1.2), (0, slv p_l)]) ⟨rfl, rfl, rfl, trivial⟩ ?_)
 intro x1 H3 J2 h
 refine GC.seq (Zo (Zm (Zm (Zq (Zi (.bool (decide ((x1.2 : Int) < (Sl.len p_l : Int)))) (GL.nil ?_))))))
 refine Zd (fun hc4 => ?_) fun hc4 => ?_
 replace h := h.1 hc4
 refine GC.skip (GC.seq (GC.block ?_))
 obtain ⟨Hs5, hle6, h⟩ := h
 refine GC.any (Hs := Hs5) (by kernel_rfl) hle6 (Zp 0 rfl (OV.move rfl) (Zp 1 rfl (OV.move rfl) (Zp 2 rfl (OV.move rfl) ?_)))
 obtain ⟨p7, ha8, hb9, hc10, hd11, h⟩ := h
 refine Zp 3 rfl (OV.indexAddr rfl rfl rfl rfl ha8 hb9 hc10 hd11) (Zp 4 rfl (OV.fieldAddr rfl rfl) ?_)
 obtain ⟨x12, hr13, h⟩ := h
 refine Zp 5 rfl (OV.load rfl rfl hr13) (Zp 6 rfl (OV.move rfl) (Zp 7 rfl (OV.move rfl) ?_))
 obtain ⟨p14, ha15, hb16, hc17, hd18, h⟩ := h
 refine Zp 8 rfl (OV.indexAddr rfl rfl rfl rfl ha15 hb16 hc17 hd18) (Zp 9 rfl (OV.fieldAddr rfl rfl) ?_)
 obtain ⟨x19, hr20, h⟩ := h
 refine Zp 10 rfl (OV.load rfl rfl hr20) (Zp 11 rfl (OV.build (vs := [(0, slv x12), (1, .int .i64 x19)]) (v := .agg (T_zset_Entry.c (⟨x12, x19⟩ : T_zset_Entry)).toArray) rfl (fun _ => by kernel_rfl)) (GA.eff 12 rfl (by kernel_rfl) (GL.buildSlice (cs := (T_zset_Entry.c (⟨x12, x19⟩ : T_zset_Entry)) ++ []) h trivial rfl (vs := [(0, .agg (T_zset_Entry.c (⟨x12, x19⟩ : T_zset_Entry)).toArray)]) rfl ⟨43, fun _ => by kernel_rfl⟩ ?_)))
 intro b22 H23 h
 obtain ⟨hle21, h⟩ := h
 refine GA.back hle21 (GA.eff 13 rfl (by kernel_rfl) (GL.appendS (s := x1.1) (s2 := (Sl.of (some (b22, 0)) 1 1)) (zc := T_zset_Entry.c T_zset_Entry.zero) (bytes := 32) h trivial rfl rfl rfl ⟨⟨_, _, _, rfl, rfl, rfl, rfl, rfl, rfl⟩⟩ rfl ?_))
 intro r25 H26 h
 obtain ⟨hle24, h⟩ := h
 refine GA.back hle24 (Zp 14 rfl (OV.assign rfl) (GA.done (by kernel_rfl) (GL.nil_to (fun _ _ h => h) (GC.region (Zm (Zi (.int .i64 (w .i64 (x1.2 + 1))) (Za ?_)))))))
 exact GL.jump (fun _ _ h => h) (r25, (w .i64 (x1.2 + 1))) h ⟨rfl, rfl, rfl, trivial⟩
 replace h := h.2 hc4
 refine GC.exit_to (fun _ _ h => h) (Zo (Zm (Za (GL.nil ?_))))
 exact GC.ret (fun _ _ hf hs => post_tmp1 rfl rfl hf hs ⟨x1.1, rfl, h⟩)
def sh_zset_each (C : Ctx) (p_parts : Sl) (K : Value → Heap → Prop) (H : Heap) : Prop :=
 nw ([slv p_parts]) (fun b1 H2 =>
 K (.func (.func 38) (List.toArray []) (List.toArray [pv (some (b1, 0))]) : Value) H2) H
theorem ad_zset_each (C : Ctx) (p_parts : Sl) (K : Value → Heap → Prop) (H : Heap) (h : sh_zset_each C p_parts K H) : c_zset_each C p_parts K H := by
 refine Spec.enter Tryd.func23 rfl Tryd.ntmps23 rfl (GC.sub [(0, slv p_parts)] ⟨rfl, trivial⟩ (Zo (GL.box (v := slv p_parts) (cs := [slv p_parts]) h trivial rfl rfl rfl ?_)))
 intro b1 H2 h
 refine Za (GL.nil (Zo (Zv (OV.makeFunc (vs := []) (us := [pv (some (b1, 0))]) rfl rfl) (Za (GL.nil ?_)))))
 exact GC.ret (fun _ _ hf hs => post_tmp1 rfl rfl hf hs ⟨(.func (.func 38) (List.toArray []) (List.toArray [pv (some (b1, 0))]) : Value), rfl, h⟩)
def sh_slices_ContainsFunc_api_Value_api_Value (C : Ctx) (p_s : Sl) (p_f : Value) (K : Bool → Heap → Prop) (H : Heap) : Prop :=
 c_slices_IndexFunc_api_Value_api_Value C p_s p_f (fun r1 H2 =>
 K (decide ((r1 : Int) ≥ 0)) H2) H
theorem ad_slices_ContainsFunc_api_Value_api_Value (C : Ctx) (p_s : Sl) (p_f : Value) (K : Bool → Heap → Prop) (H : Heap) (h : sh_slices_ContainsFunc_api_Value_api_Value C p_s p_f K H) : c_slices_ContainsFunc_api_Value_api_Value C p_s p_f K H := by
 refine Spec.enter Tryd.func24 rfl Tryd.ntmps24 rfl (GC.sub [(0, slv p_s), (1, p_f)] ⟨rfl, rfl, trivial⟩ (Zo (Za (GL.nil (Zo (Zm (Zm (Zc h ok_slices_IndexFunc_api_Value_api_Value ?_))))))))
 rintro _ H2 ⟨r1, rfl, h⟩
 refine Zi (.bool (decide ((r1 : Int) ≥ 0))) (Za (GL.nil ?_))
 exact GC.ret (fun _ _ hf hs => post_tmp1 rfl rfl hf hs ⟨(decide ((r1 : Int) ≥ 0)), rfl, h⟩)
def sh_zset_sums_1 (C : Ctx) (p_v : T_api_Value) (K : Bool → Heap → Prop) (H : Heap) : Prop :=
 nw (T_api_Value.c p_v) (fun b1 H2 =>
 ldT H2 T_api_Value.c (b1, 0) fun x3 =>
 c_value_Check C x3 (fun r5 H6 =>
 K ((r5 : Int) != 0) H6) H2) H
theorem ad_zset_sums_1 (C : Ctx) (p_v : T_api_Value) (K : Bool → Heap → Prop) (H : Heap) (h : sh_zset_sums_1 C p_v K H) : c_zset_sums_1 C p_v K H := by
 refine Spec.enter Tryd.func25 rfl Tryd.ntmps25 rfl (GC.sub [(0, .agg (T_api_Value.c p_v).toArray)] ⟨rfl, trivial⟩ (Zo (GL.box (v := .agg (T_api_Value.c p_v).toArray) (cs := T_api_Value.c p_v) h trivial rfl rfl rfl ?_)))
 intro b1 H2 h
 refine Za (GL.nil (Zo ?_))
 obtain ⟨x3, hr4, h⟩ := h
 refine Zv (OV.loadT rfl rfl rfl hr4) (Zc h ok_value_Check ?_)
 rintro _ H6 ⟨r5, rfl, h⟩
 refine Zi (.bool ((r5 : Int) != 0)) (Za (GL.nil ?_))
 exact GC.ret (fun _ _ hf hs => post_tmp1 rfl rfl hf hs ⟨((r5 : Int) != 0), rfl, h⟩)
def sh_zset_out (C : Ctx) (p_n : Int) (K : Bool → Heap → Prop) (H : Heap) : Prop :=
 K ((decide ((p_n : Int) < (-2147483647))) || (decide ((p_n : Int) > 2147483647))) H
theorem ad_zset_out (C : Ctx) (p_n : Int) (K : Bool → Heap → Prop) (H : Heap) (h : sh_zset_out C p_n K H) : c_zset_out C p_n K H := by
 refine Spec.enter Tryd.func26 rfl Tryd.ntmps26 rfl (GC.sub [(0, .int .i64 p_n)] ⟨rfl, trivial⟩ (Zo (Za (GL.nil (Zo (Zm (Zi (.bool (decide ((p_n : Int) < (-2147483647)))) (Zm ?_))))))))
 refine GL.cut0 3 [(8, .bool ((decide ((p_n : Int) < (-2147483647))) || (decide ((p_n : Int) > 2147483647))))] ?_ ?_
 rcases Zb (decide ((p_n : Int) < (-2147483647))) with hc1 | hc1
 refine Zk hc1 (Zk hc1 (Zt hc1 ?_))
 exact GL.jump0 (fun _ _ h => h) () rfl ⟨(by rw [hc1]; rfl), trivial⟩
 refine Zu hc1 (OV.move rfl) (Zu hc1 (OV.ibin (v := .bool (decide ((p_n : Int) > 2147483647))) rfl rfl rfl) (Zn hc1 ?_))
 exact GL.jump0 (fun _ _ h => h) () rfl ⟨(by rw [hc1]; rfl), trivial⟩
 refine Za (GL.nil ?_)
 exact GC.ret (fun _ _ hf hs => post_tmp1 rfl rfl hf hs ⟨((decide ((p_n : Int) < (-2147483647))) || (decide ((p_n : Int) > 2147483647))), rfl, h⟩)
def sh_slices_SortStableFunc_zset_Entry_zset_Entry (C : Ctx) (p_x : Sl) (p_cmp : Value) (K : Heap → Prop) (H : Heap) : Prop :=
 c_slices_stableCmpFunc_zset_Entry C p_x (Sl.len p_x : Int) p_cmp (fun H1 =>
 K H1) H
theorem ad_slices_SortStableFunc_zset_Entry_zset_Entry (C : Ctx) (p_x : Sl) (p_cmp : Value) (K : Heap → Prop) (H : Heap) (h : sh_slices_SortStableFunc_zset_Entry_zset_Entry C p_x p_cmp K H) : c_slices_SortStableFunc_zset_Entry_zset_Entry C p_x p_cmp K H := by
 refine Spec.enter Tryd.func27 rfl Tryd.ntmps27 rfl (GC.sub [(0, slv p_x), (1, p_cmp)] ⟨rfl, rfl, trivial⟩ (GC.region (Zm (Zm (Zq (Zm (Zc h ok_slices_stableCmpFunc_zset_Entry ?_)))))))
 rintro _ H1 ⟨rfl, h⟩
 exact GL.ends (fun _ _ hf hs => post_tmp0 rfl hf hs ⟨rfl, h⟩)
def sh_zset_sums_2 (C : Ctx) (p_a : T_zset_Entry) (p_b : T_zset_Entry) (K : Int → Heap → Prop) (H : Heap) : Prop :=
 nw (T_zset_Entry.c p_a) (fun b1 H2 =>
 nw (T_zset_Entry.c p_b) (fun b3 H4 =>
 ldL H4 ((b1, 0).1, (b1, 0).2 + 0) fun x5 =>
 ldL H4 ((b3, 0).1, (b3, 0).2 + 0) fun x7 =>
 c_value_CmpRows C x5 x7 (fun r9 H10 =>
 K r9 H10) H4) H2) H
theorem ad_zset_sums_2 (C : Ctx) (p_a : T_zset_Entry) (p_b : T_zset_Entry) (K : Int → Heap → Prop) (H : Heap) (h : sh_zset_sums_2 C p_a p_b K H) : c_zset_sums_2 C p_a p_b K H := by
 refine Spec.enter Tryd.func28 rfl Tryd.ntmps28 rfl (GC.sub [(0, .agg (T_zset_Entry.c p_a).toArray), (1, .agg (T_zset_Entry.c p_b).toArray)] ⟨rfl, rfl, trivial⟩ (Zo (GL.box (v := .agg (T_zset_Entry.c p_a).toArray) (cs := T_zset_Entry.c p_a) h trivial rfl rfl rfl ?_)))
 intro b1 H2 h
 refine GL.box (v := .agg (T_zset_Entry.c p_b).toArray) (cs := T_zset_Entry.c p_b) h trivial rfl rfl rfl ?_
 intro b3 H4 h
 refine Za (GL.nil (Zo (Zf ?_)))
 obtain ⟨x5, hr6, h⟩ := h
 refine Zl hr6 (Zf ?_)
 obtain ⟨x7, hr8, h⟩ := h
 refine Zl hr8 (Zc h ok_value_CmpRows ?_)
 rintro _ H10 ⟨r9, rfl, h⟩
 refine Za (GL.nil ?_)
 exact GC.ret (fun _ _ hf hs => post_tmp1 rfl rfl hf hs ⟨r9, rfl, h⟩)
def sh_zset_own (C : Ctx) (p_l : Sl) (K : Sl → Heap → Prop) (H : Heap) : Prop :=
 ift (((Sl.len p_l : Int) : Int) == 0)
 (K Sl.nil H)
 (c_slices_Clone_api_Value_api_Value C p_l (fun r2 H3 =>
 lp (α := Int) 0 H3 (fun x4 J5 H6 =>
 ift (decide ((x4 : Int) < (Sl.len r2 : Int)))
 (ixa r2 x4 fun p8 =>
 ldL H6 ((p8.1, p8.2 + (x4 : Int).toNat * 4).1, (p8.1, p8.2 + (x4 : Int).toNat * 4).2 + 3) fun x13 =>
 c_zset_own C x13 (fun r15 H16 =>
 ixa r2 x4 fun p17 =>
 st ((p17.1, p17.2 + (x4 : Int).toNat * 4).1, (p17.1, p17.2 + (x4 : Int).toNat * 4).2 + 3) (slv r15) (fun H22 =>
 J5 (w .i64 (x4 + 1)) H22) H16) H6)
 (K r2 H6))) H)
theorem ad_zset_own (C : Ctx) (p_l : Sl) (K : Sl → Heap → Prop) (H : Heap) (h : sh_zset_own C p_l K H) : c_zset_own C p_l K H := by
 refine Spec.enter Tryd.func29 rfl Tryd.ntmps29 rfl (GC.sub [(0, slv p_l)] ⟨rfl, trivial⟩ (Zo (Za (GL.nil (GC.seq (Zo (Zm (Zq (Zi (.bool (((Sl.len p_l : Int) : Int) == 0)) (GL.nil ?_))))))))))
 refine Zd (fun hc1 => ?_) fun hc1 => ?_
 replace h := h.1 hc1
 refine Zo (Za (GL.nil ?_))
 exact GC.ret (fun _ _ hf hs => post_tmp1 rfl rfl hf hs ⟨Sl.nil, rfl, h⟩)
 replace h := h.2 hc1
 refine GC.skip (Zo (Zm (Zc h ok_slices_Clone_api_Value_api_Value ?_)))
 rintro _ H3 ⟨r2, rfl, h⟩
 refine Za (GL.nil (GC.seq (Zo (Zm (Zq (Zm (GL.nil (GC.block (GC.loop (α := Int) h (fun x4 => [(11, .int .i64 x4), (0, slv r2), (10, .int .i64 (Sl.len r2 : Int))]) ⟨rfl, rfl, rfl, trivial⟩ ?_)))))))))
 intro x4 H6 J5 h
 refine Zo (Zi (.bool (decide ((x4 : Int) < (Sl.len r2 : Int)))) (GL.nil (GC.seq ?_)))
 refine Zd (fun hc7 => ?_) fun hc7 => ?_
 replace h := h.1 hc7
 refine GC.skip (GC.seq (GC.block (Zo (Zm (Za (GL.nil (GC.region (Zm (Zm (Zm (Zm ?_)))))))))))
 obtain ⟨p8, ha9, hb10, hc11, hd12, h⟩ := h
 refine Zx ha9 hb10 hc11 hd12 (Zf ?_)
 obtain ⟨x13, hr14, h⟩ := h
 refine Zl hr14 (Zc h ok_zset_own ?_)
 rintro _ H16 ⟨r15, rfl, h⟩
 obtain ⟨p17, ha18, hb19, hc20, hd21, h⟩ := h
 refine Zx ha18 hb19 hc20 hd21 (Zf (GL.store (p := ((p17.1, p17.2 + (x4 : Int).toNat * 4).1, (p17.1, p17.2 + (x4 : Int).toNat * 4).2 + 3)) (v := slv r15) h trivial rfl rfl rfl rfl ?_))
 intro H22 h
 refine GL.nil_to (fun _ _ h => h) (GC.region (Zi (.int .i64 (w .i64 (x4 + 1))) (Zm ?_)))
 exact GL.jump (fun _ _ h => h) (w .i64 (x4 + 1)) h ⟨rfl, rfl, rfl, trivial⟩
 replace h := h.2 hc7
 refine GC.exit_to (fun _ _ h => h) (Zo (Zm (Za (GL.nil ?_))))
 exact GC.ret (fun _ _ hf hs => post_tmp1 rfl rfl hf hs ⟨r2, rfl, h⟩)
def sh_value_may (C : Ctx) (p_l : Sl) (K : Bool → Heap → Prop) (H : Heap) : Prop :=
 c_slices_ContainsFunc_api_Value_api_Value C p_l (.func (.func 43) (List.toArray []) (List.toArray []) : Value) (fun r1 H2 =>
 K (!r1) H2) H
theorem ad_value_may (C : Ctx) (p_l : Sl) (K : Bool → Heap → Prop) (H : Heap) (h : sh_value_may C p_l K H) : c_value_may C p_l K H := by
 refine Spec.enter Tryd.func32 rfl Tryd.ntmps32 rfl (GC.sub [(0, slv p_l)] ⟨rfl, trivial⟩ (Zo (Za (GL.nil (Zo (Zm (Zc h ok_slices_ContainsFunc_api_Value_api_Value ?_)))))))
 rintro _ H2 ⟨r1, rfl, h⟩
 refine Zv (OV.not rfl) (Za (GL.nil ?_))
 exact GC.ret (fun _ _ hf hs => post_tmp1 rfl rfl hf hs ⟨(!r1), rfl, h⟩)
def sh_value_last (C : Ctx) (p_a : Bool) (p_b : Bool) (K : Int → Heap → Prop) (H : Heap) : Prop :=
 ift (p_a == p_b)
 (K 0 H)
 (ift p_a
 (K (-1) H)
 (K 1 H))
theorem ad_value_last (C : Ctx) (p_a : Bool) (p_b : Bool) (K : Int → Heap → Prop) (H : Heap) (h : sh_value_last C p_a p_b K H) : c_value_last C p_a p_b K H := by
 refine Spec.enter Tryd.func33 rfl Tryd.ntmps33 rfl (GC.sub [(0, .bool p_a), (1, .bool p_b)] ⟨rfl, rfl, trivial⟩ (Zo (Za (GL.nil (GC.seq (GC.block (Zo (Zm (Zm (Zv (OV.eqlBool rfl rfl rfl) (Za ?_)))))))))))
 refine GL.nil ?_
 refine Zd (fun hc1 => ?_) fun hc1 => ?_
 replace h := h.1 hc1
 refine Zo (Za (GL.nil ?_))
 exact GC.ret (fun _ _ hf hs => post_tmp1 rfl rfl hf hs ⟨0, rfl, h⟩)
 replace h := h.2 hc1
 refine Zo (Zm (Za (GL.nil ?_)))
 refine Zd (fun hc2 => ?_) fun hc2 => ?_
 replace h := h.1 hc2
 refine Zo (Za (GL.nil ?_))
 exact GC.ret (fun _ _ hf hs => post_tmp1 rfl rfl hf hs ⟨(-1), rfl, h⟩)
 replace h := h.2 hc2
 refine GC.skip_to (fun _ _ h => h) (Zo (Za (GL.nil ?_)))
 exact GC.ret (fun _ _ hf hs => post_tmp1 rfl rfl hf hs ⟨1, rfl, h⟩)
def sh_value_rows (C : Ctx) (p_a : Sl) (p_b : Sl) (K : Int → Heap → Prop) (H : Heap) : Prop :=
 c_slices_CompareFunc_api_Value_api_Value_api_Value_api_Value C p_a p_b (.func (.func 45) (List.toArray []) (List.toArray []) : Value) (fun r1 H2 =>
 K r1 H2) H
theorem ad_value_rows (C : Ctx) (p_a : Sl) (p_b : Sl) (K : Int → Heap → Prop) (H : Heap) (h : sh_value_rows C p_a p_b K H) : c_value_rows C p_a p_b K H := by
 refine Spec.enter Tryd.func34 rfl Tryd.ntmps34 rfl (GC.sub [(0, slv p_a), (1, slv p_b)] ⟨rfl, rfl, trivial⟩ (Zo (Za (GL.nil (Zo (Zm (Zm (Zc h ok_slices_CompareFunc_api_Value_api_Value_api_Value_api_Value ?_))))))))
 rintro _ H2 ⟨r1, rfl, h⟩
 refine Za (GL.nil ?_)
 exact GC.ret (fun _ _ hf hs => post_tmp1 rfl rfl hf hs ⟨r1, rfl, h⟩)
def sh_value_depth (C : Ctx) (p_v : T_api_Value) (p_most : Int) (K : Int → Heap → Prop) (H : Heap) : Prop :=
 nw (T_api_Value.c p_v) (fun b1 H2 =>
 jn (α := Int) (fun x4 H5 =>
 K (w .i64 (x4 + 1)) H5)
 (fun J3 => ldL H2 ((b1, 0).1, (b1, 0).2 + 3) fun x7 =>
 lp (α := Int × Int) (0, 0) H2 (fun x9 J10 H11 =>
 ift (decide ((x9.2 : Int) < (Sl.len x7 : Int)))
 (ixa x7 x9.2 fun p13 =>
 ldT H11 T_api_Value.c (p13.1, p13.2 + (x9.2 : Int).toNat * 4) fun x18 =>
 nw (T_api_Value.c T_api_Value.zero) (fun b20 H21 =>
 stT (b20, 0) (T_api_Value.c x18) (fun H22 =>
 ift (decide ((x9.1 : Int) ≥ p_most))
 (J3 x9.1 H22)
 (ldT H22 T_api_Value.c (b20, 0) fun x24 =>
 c_value_depth C x24 (w .i64 (p_most - 1)) (fun r26 H27 =>
 J10 ((if r26 > x9.1 then r26 else x9.1 : Int), (w .i64 (x9.2 + 1))) H27) H22)) H21) H11)
 (J3 x9.1 H11)))) H
theorem ad_value_depth (C : Ctx) (p_v : T_api_Value) (p_most : Int) (K : Int → Heap → Prop) (H : Heap) (h : sh_value_depth C p_v p_most K H) : c_value_depth C p_v p_most K H := by
 refine Spec.enter Tryd.func35 rfl Tryd.ntmps35 rfl (GC.sub [(0, .agg (T_api_Value.c p_v).toArray), (1, .int .i64 p_most)] ⟨rfl, rfl, trivial⟩ (Zo (GL.box (v := .agg (T_api_Value.c p_v).toArray) (cs := T_api_Value.c p_v) h trivial rfl rfl rfl ?_)))
 intro b1 H2 h
 refine Za (GL.nil (Zo (Za (GL.nil ?_))))
 obtain ⟨J3, h, hR6⟩ := h
 refine GC.join (α := Int) J3 (fun x4 => [(5, .int .i64 x4)]) ?_ ?_
 refine Zo (Zf ?_)
 obtain ⟨x7, hr8, h⟩ := h
 refine Zl hr8 (Zq (Zm (GL.nil (GC.block (GC.loop (α := Int × Int) h (fun x9 => [(5, .int .i64 x9.1), (11, .int .i64 x9.2), (1, .int .i64 p_most), (9, slv x7), (10, .int .i64 (Sl.len x7 : Int))]) ⟨rfl, rfl, rfl, rfl, rfl, trivial⟩ ?_)))))
 intro x9 H11 J10 h
 refine Zo (Zi (.bool (decide ((x9.2 : Int) < (Sl.len x7 : Int)))) (GL.nil (GC.seq ?_)))
 refine Zd (fun hc12 => ?_) fun hc12 => ?_
 replace h := h.1 hc12
 refine GC.skip (GC.seq (GC.block (Zo ?_)))
 obtain ⟨p13, ha14, hb15, hc16, hd17, h⟩ := h
 refine Zx ha14 hb15 hc16 hd17 ?_
 obtain ⟨x18, hr19, h⟩ := h
 refine Zv (OV.loadT rfl rfl rfl hr19) (GL.alloc (cs := T_api_Value.c T_api_Value.zero) h trivial rfl rfl rfl ?_)
 intro b20 H21 h
 refine GL.storeT (p := (b20, 0)) (vs := T_api_Value.c x18) h trivial rfl rfl rfl rfl ?_
 intro H22 h
 refine GL.nil (GC.seq (Zo (Zm (Zm (Zi (.bool (decide ((x9.1 : Int) ≥ p_most))) (GL.nil ?_))))))
 refine Zd (fun hc23 => ?_) fun hc23 => ?_
 replace h := h.1 hc23
 exact GC.exit_jump (fun _ _ h => h) x9.1 h ⟨rfl, trivial⟩
 replace h := h.2 hc23
 refine GC.skip (GC.region (Zm ?_))
 obtain ⟨x24, hr25, h⟩ := h
 refine Zv (OV.loadT rfl rfl rfl hr25) (Zm (Zi (.int .i64 (w .i64 (p_most - 1))) (Zc h ok_value_depth ?_)))
 rintro _ H27 ⟨r26, rfl, h⟩
 refine Zv (OV.maxI rfl rfl) (Za (GL.nil_to (fun _ _ h => h) (GC.region (Zi (.int .i64 (w .i64 (x9.2 + 1))) (Zm ?_)))))
 exact GL.jump (fun _ _ h => h) ((if r26 > x9.1 then r26 else x9.1 : Int), (w .i64 (x9.2 + 1))) h ⟨rfl, rfl, rfl, rfl, rfl, trivial⟩
 replace h := h.2 hc12
 exact GC.exit_jump (fun _ _ h => h) x9.1 h ⟨rfl, trivial⟩
 intro x4 H5 h
 replace h := hR6 x4 H5 h
 refine Zo (Zm (Zi (.int .i64 (w .i64 (x4 + 1))) (Za (GL.nil ?_))))
 exact GC.ret (fun _ _ hf hs => post_tmp1 rfl rfl hf hs ⟨(w .i64 (x4 + 1)), rfl, h⟩)
def sh_value_item_look (C : Ctx) (p_v : T_api_Value) (K : Bool → Bool → Heap → Prop) (H : Heap) : Prop :=
 nw (T_api_Value.c p_v) (fun b1 H2 =>
 ldI H2 .i64 ((b1, 0).1, (b1, 0).2 + 1) fun x3 =>
 jn (α := Bool) (fun b5 H11 =>
 jn (α := Bool) (fun b12 H18 =>
 jn (α := Bool × Bool) (fun x20 H21 =>
 ldL H21 ((b1, 0).1, (b1, 0).2 + 3) fun x149 =>
 lp (α := Bool × Bool × Int) (x20.1, x20.2, 0) H21 (fun x151 J152 H153 =>
 ift (decide ((x151.2.2 : Int) < (Sl.len x149 : Int)))
 (ixa x149 x151.2.2 fun p155 =>
 ldT H153 T_api_Value.c (p155.1, p155.2 + (x151.2.2 : Int).toNat * 4) fun x160 =>
 nw (T_api_Value.c T_api_Value.zero) (fun b162 H163 =>
 stT (b162, 0) (T_api_Value.c x160) (fun H164 =>
 ldT H164 T_api_Value.c (b162, 0) fun x165 =>
 c_value_item_look C x165 (fun r167 r168 H169 =>
 J152 ((x151.1 && r167), (x151.2.1 && r168), (w .i64 (x151.2.2 + 1))) H169) H164) H163) H153)
 (K x151.1 x151.2.1 H153)))
 (fun J19 => ldI H18 .u8 ((b1, 0).1, (b1, 0).2 + 0) fun x23 =>
 ift ((x23 : Int) == 1)
 (ldI H18 .i64 ((b1, 0).1, (b1, 0).2 + 1) fun x26 =>
 jn (α := Bool) (fun b28 H34 =>
 jn (α := Bool) (fun b35 H41 =>
 jn (α := Bool) (fun b42 H48 =>
 J19 (b42, true) H48)
 (fun J43 => ift b35
 (ldL H41 ((b1, 0).1, (b1, 0).2 + 3) fun x46 =>
 J43 (((Sl.len x46 : Int) : Int) == 0) H41)
 (J43 false H41)))
 (fun J36 => ift b28
 (ldS H34 ((b1, 0).1, (b1, 0).2 + 2) fun x39 =>
 J36 (x39 == ([] : Str)) H34)
 (J36 false H34)))
 (fun J29 => ift ((x26 : Int) == 0)
 (J29 true H18)
 (ldI H18 .i64 ((b1, 0).1, (b1, 0).2 + 1) fun x32 =>
 J29 ((x32 : Int) == 1) H18)))
 (ift ((x23 : Int) == 2)
 (ldS H18 ((b1, 0).1, (b1, 0).2 + 2) fun x50 =>
 jn (α := Bool) (fun b52 H58 =>
 J19 (b52, true) H58)
 (fun J53 => ift (x50 == ([] : Str))
 (ldL H18 ((b1, 0).1, (b1, 0).2 + 3) fun x56 =>
 J53 (((Sl.len x56 : Int) : Int) == 0) H18)
 (J53 false H18)))
 (ift ((x23 : Int) == 3)
 (ldS H18 ((b1, 0).1, (b1, 0).2 + 2) fun x60 =>
 c_value_number C x60 (fun r62 r63 H64 =>
 jn (α := Bool) (fun b65 H71 =>
 jn (α := Bool) (fun b72 H78 =>
 J19 (b72, (decide ((r62 : Int) ≤ 200))) H78)
 (fun J73 => ift b65
 (ldL H71 ((b1, 0).1, (b1, 0).2 + 3) fun x76 =>
 J73 (((Sl.len x76 : Int) : Int) == 0) H71)
 (J73 false H71)))
 (fun J66 => ift r63
 (ldI H64 .i64 ((b1, 0).1, (b1, 0).2 + 1) fun x69 =>
 J66 ((x69 : Int) == 0) H64)
 (J66 false H64))) H18)
 (ift ((x23 : Int) == 4)
 (jn (α := Bool × Bool) (fun x81 H82 =>
 J19 (x81.1, x81.2) H82)
 (fun J80 => dr H18 fun Hs84 =>
 ldI Hs84 .i64 ((b1, 0).1, (b1, 0).2 + 1) fun x86 =>
 ldS Hs84 ((b1, 0).1, (b1, 0).2 + 2) fun x88 =>
 ift ((x86 : Int) == 0)
 (ldL Hs84 ((b1, 0).1, (b1, 0).2 + 3) fun x91 =>
 J80 ((((Sl.len x91 : Int) : Int) == 0), (decide (((List.length x88 : Int) : Int) ≤ 4096))) H18)
 (J80 (false, (decide (((List.length x88 : Int) : Int) ≤ 4096))) H18)))
 (ift ((x23 : Int) == 5)
 (jn (α := Bool × Bool) (fun x95 H96 =>
 J19 (x95.1, x95.2) H96)
 (fun J94 => dr H18 fun Hs98 =>
 ldI Hs98 .i64 ((b1, 0).1, (b1, 0).2 + 1) fun x100 =>
 ldL Hs98 ((b1, 0).1, (b1, 0).2 + 3) fun x102 =>
 ift ((x100 : Int) == 0)
 (ldS Hs98 ((b1, 0).1, (b1, 0).2 + 2) fun x105 =>
 ift (x105 == ([] : Str))
 (ldL Hs98 ((b1, 0).1, (b1, 0).2 + 3) fun x108 =>
 J94 ((((Sl.len x108 : Int) : Int) != 1), (decide (((Sl.len x102 : Int) : Int) ≤ 16))) H18)
 (J94 (false, (decide (((Sl.len x102 : Int) : Int) ≤ 16))) H18))
 (J94 (false, (decide (((Sl.len x102 : Int) : Int) ≤ 16))) H18)))
 (ift ((x23 : Int) == 6)
 (ldS H18 ((b1, 0).1, (b1, 0).2 + 2) fun x111 =>
 c_strings_Cut C x111 [46] (fun r113 r114 r115 H116 =>
 jn (α := Bool × Bool) (fun x118 H119 =>
 J19 (x118.1, x118.2) H119)
 (fun J117 => dr H116 fun Hs121 =>
 ldI Hs121 .i64 ((b1, 0).1, (b1, 0).2 + 1) fun x123 =>
 ldL Hs121 ((b1, 0).1, (b1, 0).2 + 3) fun x125 =>
 ift ((x123 : Int) == 0)
 (c_value_name C r113 (fun r129 H130 =>
 Heap.le Hs121 H130 ∧
 ift r129
 (ift r115
 (c_value_name C r114 (fun r134 H135 =>
 Heap.le Hs121 H135 ∧
 ift r134
 (J117 (true, (decide (((Sl.len x125 : Int) : Int) ≤ 8))) H135)
 (ift (!r115)
 (ldS Hs121 ((b1, 0).1, (b1, 0).2 + 2) fun x138 =>
 ift (!(x138 == ([116, 114, 117, 101] : Str)))
 (ldS Hs121 ((b1, 0).1, (b1, 0).2 + 2) fun x141 =>
 J117 ((!(x141 == ([102, 97, 108, 115, 101] : Str))), (decide (((Sl.len x125 : Int) : Int) ≤ 8))) H135)
 (J117 (false, (decide (((Sl.len x125 : Int) : Int) ≤ 8))) H135))
 (J117 (false, (decide (((Sl.len x125 : Int) : Int) ≤ 8))) H135))) H130)
 (ift (!r115)
 (ldS Hs121 ((b1, 0).1, (b1, 0).2 + 2) fun x144 =>
 ift (!(x144 == ([116, 114, 117, 101] : Str)))
 (ldS Hs121 ((b1, 0).1, (b1, 0).2 + 2) fun x147 =>
 J117 ((!(x147 == ([102, 97, 108, 115, 101] : Str))), (decide (((Sl.len x125 : Int) : Int) ≤ 8))) H130)
 (J117 (false, (decide (((Sl.len x125 : Int) : Int) ≤ 8))) H130))
 (J117 (false, (decide (((Sl.len x125 : Int) : Int) ≤ 8))) H130)))
 (J117 (false, (decide (((Sl.len x125 : Int) : Int) ≤ 8))) H130)) H116)
 (J117 (false, (decide (((Sl.len x125 : Int) : Int) ≤ 8))) H116))) H18)
 (J19 (false, true) H18))))))))
 (fun J13 => ift b5
 (ldL H11 ((b1, 0).1, (b1, 0).2 + 3) fun x16 =>
 J13 (((Sl.len x16 : Int) : Int) == 0) H11)
 (J13 false H11)))
 (fun J6 => ift ((x3 : Int) == 0)
 (ldS H2 ((b1, 0).1, (b1, 0).2 + 2) fun x9 =>
 J6 (x9 == ([] : Str)) H2)
 (J6 false H2))) H
theorem ad_value_item_look (C : Ctx) (p_v : T_api_Value) (K : Bool → Bool → Heap → Prop) (H : Heap) (h : sh_value_item_look C p_v K H) : c_value_item_look C p_v K H := by
 refine Spec.enter Tryd.func36 rfl Tryd.ntmps36 rfl (GC.sub [(0, .agg (T_api_Value.c p_v).toArray)] ⟨rfl, trivial⟩ (Zo (GL.box (v := .agg (T_api_Value.c p_v).toArray) (cs := T_api_Value.c p_v) h trivial rfl rfl rfl ?_)))
 intro b1 H2 h
 refine Za (Za (GL.nil (Zo (Zf ?_))))
 obtain ⟨x3, hr4, h⟩ := h
 refine Zl hr4 (Zi (.bool ((x3 : Int) == 0)) (Zm ?_))
 obtain ⟨J6, h, hR7⟩ := h
 refine GL.cut (α := Bool) 4 J6 (fun b5 => [(20, .bool b5), (1, pv (some (b1, 0)))]) ?_ ?_
 rcases Zb ((x3 : Int) == 0) with hc8 | hc8
 replace h := h.1 hc8
 refine Zu hc8 (OV.fieldAddr rfl rfl) ?_
 obtain ⟨x9, hr10, h⟩ := h
 refine Zu hc8 (OV.load rfl rfl hr10) (Zu hc8 (OV.sbin (a := x9) (b := ([] : Str)) (v := .bool (x9 == ([] : Str))) rfl rfl rfl) (Zt hc8 ?_))
 exact GL.jump (fun _ _ h => h) (x9 == ([] : Str)) h ⟨rfl, rfl, trivial⟩
 replace h := h.2 hc8
 refine Zk hc8 (Zk hc8 (Zk hc8 (Zn hc8 ?_)))
 exact GL.jump (fun _ _ h => h) false h ⟨rfl, rfl, trivial⟩
 intro b5 H11 h
 replace h := hR7 b5 H11 h
 refine Zm ?_
 obtain ⟨J13, h, hR14⟩ := h
 refine GL.cut (α := Bool) 5 J13 (fun b12 => [(26, .bool b12), (1, pv (some (b1, 0)))]) ?_ ?_
 rcases Bool.eq_false_or_eq_true b5 with hc15 | hc15
 replace h := h.1 hc15
 refine Zu hc15 (OV.fieldAddr rfl rfl) ?_
 obtain ⟨x16, hr17, h⟩ := h
 refine Zu hc15 (OV.load rfl rfl hr17) (Zu hc15 (OV.lenSl rfl rfl) (Zu hc15 (OV.ibin (v := .bool (((Sl.len x16 : Int) : Int) == 0)) rfl rfl rfl) (Zt hc15 ?_)))
 exact GL.jump (fun _ _ h => h) (((Sl.len x16 : Int) : Int) == 0) h ⟨rfl, rfl, trivial⟩
 replace h := h.2 hc15
 refine Zk hc15 (Zk hc15 (Zk hc15 (Zk hc15 (Zn hc15 ?_))))
 exact GL.jump (fun _ _ h => h) false h ⟨rfl, rfl, trivial⟩
 intro b12 H18 h
 replace h := hR14 b12 H18 h
 refine Za (Za (GL.nil ?_))
 obtain ⟨J19, h, hR22⟩ := h
 refine GC.join (α := Bool × Bool) J19 (fun x20 => [(2, .bool x20.1), (3, .bool x20.2), (1, pv (some (b1, 0)))]) ?_ ?_
 refine Zo (Zf ?_)
 obtain ⟨x23, hr24, h⟩ := h
 refine Zl hr24 (GL.nil (GC.block (Zo (Zi (.bool ((x23 : Int) == 1)) (Za (GL.nil ?_))))))
 refine Zd (fun hc25 => ?_) fun hc25 => ?_
 replace h := h.1 hc25
 refine GC.region (Zf ?_)
 obtain ⟨x26, hr27, h⟩ := h
 refine Zl hr27 (Zi (.bool ((x26 : Int) == 0)) (Zm ?_))
 obtain ⟨J29, h, hR30⟩ := h
 refine GL.cut (α := Bool) 4 J29 (fun b28 => [(38, .bool b28), (1, pv (some (b1, 0))), (3, .bool true)]) ?_ ?_
 rcases Zb ((x26 : Int) == 0) with hc31 | hc31
 replace h := h.1 hc31
 refine Zk hc31 (Zk hc31 (Zk hc31 (Zt hc31 ?_)))
 exact GL.jump (fun _ _ h => h) true h ⟨rfl, rfl, rfl, trivial⟩
 replace h := h.2 hc31
 refine Zu hc31 (OV.fieldAddr rfl rfl) ?_
 obtain ⟨x32, hr33, h⟩ := h
 refine Zu hc31 (OV.load rfl rfl hr33) (Zu hc31 (OV.ibin (v := .bool ((x32 : Int) == 1)) rfl rfl rfl) (Zn hc31 ?_))
 exact GL.jump (fun _ _ h => h) ((x32 : Int) == 1) h ⟨rfl, rfl, rfl, trivial⟩
 intro b28 H34 h
 replace h := hR30 b28 H34 h
 refine Zm ?_
 obtain ⟨J36, h, hR37⟩ := h
 refine GL.cut (α := Bool) 4 J36 (fun b35 => [(43, .bool b35), (1, pv (some (b1, 0))), (3, .bool true)]) ?_ ?_
 rcases Bool.eq_false_or_eq_true b28 with hc38 | hc38
 replace h := h.1 hc38
 refine Zu hc38 (OV.fieldAddr rfl rfl) ?_
 obtain ⟨x39, hr40, h⟩ := h
 refine Zu hc38 (OV.load rfl rfl hr40) (Zu hc38 (OV.sbin (a := x39) (b := ([] : Str)) (v := .bool (x39 == ([] : Str))) rfl rfl rfl) (Zt hc38 ?_))
 exact GL.jump (fun _ _ h => h) (x39 == ([] : Str)) h ⟨rfl, rfl, rfl, trivial⟩
 replace h := h.2 hc38
 refine Zk hc38 (Zk hc38 (Zk hc38 (Zn hc38 ?_)))
 exact GL.jump (fun _ _ h => h) false h ⟨rfl, rfl, rfl, trivial⟩
 intro b35 H41 h
 replace h := hR37 b35 H41 h
 refine Zm ?_
 obtain ⟨J43, h, hR44⟩ := h
 refine GL.cut (α := Bool) 5 J43 (fun b42 => [(49, .bool b42), (1, pv (some (b1, 0))), (3, .bool true)]) ?_ ?_
 rcases Bool.eq_false_or_eq_true b35 with hc45 | hc45
 replace h := h.1 hc45
 refine Zu hc45 (OV.fieldAddr rfl rfl) ?_
 obtain ⟨x46, hr47, h⟩ := h
 refine Zu hc45 (OV.load rfl rfl hr47) (Zu hc45 (OV.lenSl rfl rfl) (Zu hc45 (OV.ibin (v := .bool (((Sl.len x46 : Int) : Int) == 0)) rfl rfl rfl) (Zt hc45 ?_)))
 exact GL.jump (fun _ _ h => h) (((Sl.len x46 : Int) : Int) == 0) h ⟨rfl, rfl, rfl, trivial⟩
 replace h := h.2 hc45
 refine Zk hc45 (Zk hc45 (Zk hc45 (Zk hc45 (Zn hc45 ?_))))
 exact GL.jump (fun _ _ h => h) false h ⟨rfl, rfl, rfl, trivial⟩
 intro b42 H48 h
 replace h := hR44 b42 H48 h
 refine Za ?_
 exact GL.jump (fun _ _ h => h) (b42, true) h ⟨rfl, rfl, rfl, trivial⟩
 replace h := h.2 hc25
 refine Zo (Zi (.bool ((x23 : Int) == 2)) (Za (GL.nil ?_)))
 refine Zd (fun hc49 => ?_) fun hc49 => ?_
 replace h := h.1 hc49
 refine GC.region (Zf ?_)
 obtain ⟨x50, hr51, h⟩ := h
 refine Zl hr51 (Zv (OV.sbin (a := x50) (b := ([] : Str)) (v := .bool (x50 == ([] : Str))) rfl rfl rfl) (Zm ?_))
 obtain ⟨J53, h, hR54⟩ := h
 refine GL.cut (α := Bool) 5 J53 (fun b52 => [(60, .bool b52), (1, pv (some (b1, 0))), (3, .bool true)]) ?_ ?_
 rcases Zb (x50 == ([] : Str)) with hc55 | hc55
 replace h := h.1 hc55
 refine Zu hc55 (OV.fieldAddr rfl rfl) ?_
 obtain ⟨x56, hr57, h⟩ := h
 refine Zu hc55 (OV.load rfl rfl hr57) (Zu hc55 (OV.lenSl rfl rfl) (Zu hc55 (OV.ibin (v := .bool (((Sl.len x56 : Int) : Int) == 0)) rfl rfl rfl) (Zt hc55 ?_)))
 exact GL.jump (fun _ _ h => h) (((Sl.len x56 : Int) : Int) == 0) h ⟨rfl, rfl, rfl, trivial⟩
 replace h := h.2 hc55
 refine Zk hc55 (Zk hc55 (Zk hc55 (Zk hc55 (Zn hc55 ?_))))
 exact GL.jump (fun _ _ h => h) false h ⟨rfl, rfl, rfl, trivial⟩
 intro b52 H58 h
 replace h := hR54 b52 H58 h
 refine Za ?_
 exact GL.jump (fun _ _ h => h) (b52, true) h ⟨rfl, rfl, rfl, trivial⟩
 replace h := h.2 hc49
 refine Zo (Zi (.bool ((x23 : Int) == 3)) (Za (GL.nil ?_)))
 refine Zd (fun hc59 => ?_) fun hc59 => ?_
 replace h := h.1 hc59
 refine Zo (Zf ?_)
 obtain ⟨x60, hr61, h⟩ := h
 refine Zl hr61 (Zc h ok_value_number ?_)
 rintro _ H64 ⟨r62, r63, rfl, h⟩
 refine Zm (Zv (OV.extract (v := .int .i64 r62) rfl rfl) (Zv (OV.extract (v := .bool r63) rfl rfl) (Za (Za (GL.nil (GC.region (Zm (Zm ?_))))))))
 obtain ⟨J66, h, hR67⟩ := h
 refine GL.cut (α := Bool) 4 J66 (fun b65 => [(74, .bool b65), (1, pv (some (b1, 0))), (4, .int .i64 r62)]) ?_ ?_
 rcases Bool.eq_false_or_eq_true r63 with hc68 | hc68
 replace h := h.1 hc68
 refine Zu hc68 (OV.fieldAddr rfl rfl) ?_
 obtain ⟨x69, hr70, h⟩ := h
 refine Zu hc68 (OV.load rfl rfl hr70) (Zu hc68 (OV.ibin (v := .bool ((x69 : Int) == 0)) rfl rfl rfl) (Zt hc68 ?_))
 exact GL.jump (fun _ _ h => h) ((x69 : Int) == 0) h ⟨rfl, rfl, rfl, trivial⟩
 replace h := h.2 hc68
 refine Zk hc68 (Zk hc68 (Zk hc68 (Zn hc68 ?_)))
 exact GL.jump (fun _ _ h => h) false h ⟨rfl, rfl, rfl, trivial⟩
 intro b65 H71 h
 replace h := hR67 b65 H71 h
 refine Zm ?_
 obtain ⟨J73, h, hR74⟩ := h
 refine GL.cut (α := Bool) 5 J73 (fun b72 => [(80, .bool b72), (1, pv (some (b1, 0))), (4, .int .i64 r62)]) ?_ ?_
 rcases Bool.eq_false_or_eq_true b65 with hc75 | hc75
 replace h := h.1 hc75
 refine Zu hc75 (OV.fieldAddr rfl rfl) ?_
 obtain ⟨x76, hr77, h⟩ := h
 refine Zu hc75 (OV.load rfl rfl hr77) (Zu hc75 (OV.lenSl rfl rfl) (Zu hc75 (OV.ibin (v := .bool (((Sl.len x76 : Int) : Int) == 0)) rfl rfl rfl) (Zt hc75 ?_)))
 exact GL.jump (fun _ _ h => h) (((Sl.len x76 : Int) : Int) == 0) h ⟨rfl, rfl, rfl, trivial⟩
 replace h := h.2 hc75
 refine Zk hc75 (Zk hc75 (Zk hc75 (Zk hc75 (Zn hc75 ?_))))
 exact GL.jump (fun _ _ h => h) false h ⟨rfl, rfl, rfl, trivial⟩
 intro b72 H78 h
 replace h := hR74 b72 H78 h
 refine Zm (Zi (.bool (decide ((r62 : Int) ≤ 200))) (Za (Za ?_)))
 exact GL.jump (fun _ _ h => h) (b72, (decide ((r62 : Int) ≤ 200))) h ⟨rfl, rfl, rfl, trivial⟩
 replace h := h.2 hc59
 refine Zo (Zi (.bool ((x23 : Int) == 4)) (Za (GL.nil ?_)))
 refine Zd (fun hc79 => ?_) fun hc79 => ?_
 replace h := h.1 hc79
 obtain ⟨J80, h, hR83⟩ := h
 refine GC.meet (α := Bool × Bool) J80 (fun x81 => [(2, .bool x81.1), (3, .bool x81.2), (1, pv (some (b1, 0)))]) ?_ ?_
 obtain ⟨Hs84, hle85, h⟩ := h
 refine GC.any (Hs := Hs84) (by kernel_rfl) hle85 (Zp 0 rfl (OV.fieldAddr rfl rfl) ?_)
 obtain ⟨x86, hr87, h⟩ := h
 refine Zp 1 rfl (OV.load rfl rfl hr87) (Zp 2 rfl (OV.ibin (v := .bool ((x86 : Int) == 0)) rfl rfl rfl) (Zp 3 rfl (OV.move rfl) (Zp 9 rfl (OV.fieldAddr rfl rfl) ?_)))
 obtain ⟨x88, hr89, h⟩ := h
 refine Zp 10 rfl (OV.load rfl rfl hr89) (Zp 11 rfl (OV.lenStr rfl rfl) (Zp 12 rfl (OV.ibin (v := .bool (decide (((List.length x88 : Int) : Int) ≤ 4096))) rfl rfl rfl) ?_))
 rcases Zb ((x86 : Int) == 0) with hc90 | hc90
 replace h := h.1 hc90
 refine Zg 4 rfl ⟨_, _, rfl, rfl, hc90⟩ (OV.fieldAddr rfl rfl) ?_
 obtain ⟨x91, hr92, h⟩ := h
 refine Zg 5 rfl ⟨_, _, rfl, rfl, hc90⟩ (OV.load rfl rfl hr92) (Zg 6 rfl ⟨_, _, rfl, rfl, hc90⟩ (OV.lenSl rfl rfl) (Zg 7 rfl ⟨_, _, rfl, rfl, hc90⟩ (OV.ibin (v := .bool (((Sl.len x91 : Int) : Int) == 0)) rfl rfl rfl) (Zp 8 rfl (OV.pickT rfl hc90 rfl) (Zp 13 rfl (OV.assign rfl) (Zp 14 rfl (OV.assign rfl) (GA.done (by kernel_rfl) ?_))))))
 exact GL.jump (fun _ _ h => h) ((((Sl.len x91 : Int) : Int) == 0), (decide (((List.length x88 : Int) : Int) ≤ 4096))) h ⟨rfl, rfl, rfl, trivial⟩
 replace h := h.2 hc90
 refine Zj 4 rfl ⟨_, rfl, .inl ⟨_, rfl, hc90⟩⟩ (Zj 5 rfl ⟨_, rfl, .inl ⟨_, rfl, hc90⟩⟩ (Zj 6 rfl ⟨_, rfl, .inl ⟨_, rfl, hc90⟩⟩ (Zj 7 rfl ⟨_, rfl, .inl ⟨_, rfl, hc90⟩⟩ (Zp 8 rfl (OV.pickF rfl hc90 rfl) (Zp 13 rfl (OV.assign rfl) (Zp 14 rfl (OV.assign rfl) (GA.done (by kernel_rfl) ?_)))))))
 exact GL.jump (fun _ _ h => h) (false, (decide (((List.length x88 : Int) : Int) ≤ 4096))) h ⟨rfl, rfl, rfl, trivial⟩
 intro x81 H82 h
 replace h := hR83 x81 H82 h
 exact GL.jump (fun _ _ h => h) (x81.1, x81.2) h ⟨rfl, rfl, rfl, trivial⟩
 replace h := h.2 hc79
 refine Zo (Zi (.bool ((x23 : Int) == 5)) (Za (GL.nil ?_)))
 refine Zd (fun hc93 => ?_) fun hc93 => ?_
 replace h := h.1 hc93
 obtain ⟨J94, h, hR97⟩ := h
 refine GC.meet (α := Bool × Bool) J94 (fun x95 => [(2, .bool x95.1), (3, .bool x95.2), (1, pv (some (b1, 0)))]) ?_ ?_
 obtain ⟨Hs98, hle99, h⟩ := h
 refine GC.any (Hs := Hs98) (by kernel_rfl) hle99 (Zp 0 rfl (OV.fieldAddr rfl rfl) ?_)
 obtain ⟨x100, hr101, h⟩ := h
 refine Zp 1 rfl (OV.load rfl rfl hr101) (Zp 2 rfl (OV.ibin (v := .bool ((x100 : Int) == 0)) rfl rfl rfl) (Zp 3 rfl (OV.move rfl) (Zp 14 rfl (OV.fieldAddr rfl rfl) ?_)))
 obtain ⟨x102, hr103, h⟩ := h
 refine Zp 15 rfl (OV.load rfl rfl hr103) (Zp 16 rfl (OV.lenSl rfl rfl) (Zp 17 rfl (OV.ibin (v := .bool (decide (((Sl.len x102 : Int) : Int) ≤ 16))) rfl rfl rfl) ?_))
 rcases Zb ((x100 : Int) == 0) with hc104 | hc104
 replace h := h.1 hc104
 refine Zg 4 rfl ⟨_, _, rfl, rfl, hc104⟩ (OV.fieldAddr rfl rfl) ?_
 obtain ⟨x105, hr106, h⟩ := h
 refine Zg 5 rfl ⟨_, _, rfl, rfl, hc104⟩ (OV.load rfl rfl hr106) (Zg 6 rfl ⟨_, _, rfl, rfl, hc104⟩ (OV.sbin (a := x105) (b := ([] : Str)) (v := .bool (x105 == ([] : Str))) rfl rfl rfl) (Zp 7 rfl (OV.pickT rfl hc104 rfl) (Zp 8 rfl (OV.move rfl) ?_)))
 rcases Zb (x105 == ([] : Str)) with hc107 | hc107
 replace h := h.1 hc107
 refine Zg 9 rfl ⟨_, _, rfl, rfl, hc107⟩ (OV.fieldAddr rfl rfl) ?_
 obtain ⟨x108, hr109, h⟩ := h
 refine Zg 10 rfl ⟨_, _, rfl, rfl, hc107⟩ (OV.load rfl rfl hr109) (Zg 11 rfl ⟨_, _, rfl, rfl, hc107⟩ (OV.lenSl rfl rfl) (Zg 12 rfl ⟨_, _, rfl, rfl, hc107⟩ (OV.ibin (v := .bool (((Sl.len x108 : Int) : Int) != 1)) rfl rfl rfl) (Zp 13 rfl (OV.pickT rfl hc107 rfl) (Zp 18 rfl (OV.assign rfl) (Zp 19 rfl (OV.assign rfl) (GA.done (by kernel_rfl) ?_))))))
 exact GL.jump (fun _ _ h => h) ((((Sl.len x108 : Int) : Int) != 1), (decide (((Sl.len x102 : Int) : Int) ≤ 16))) h ⟨rfl, rfl, rfl, trivial⟩
 replace h := h.2 hc107
 refine Zj 9 rfl ⟨_, rfl, .inl ⟨_, rfl, hc107⟩⟩ (Zj 10 rfl ⟨_, rfl, .inl ⟨_, rfl, hc107⟩⟩ (Zj 11 rfl ⟨_, rfl, .inl ⟨_, rfl, hc107⟩⟩ (Zj 12 rfl ⟨_, rfl, .inl ⟨_, rfl, hc107⟩⟩ (Zp 13 rfl (OV.pickF rfl hc107 rfl) (Zp 18 rfl (OV.assign rfl) (Zp 19 rfl (OV.assign rfl) (GA.done (by kernel_rfl) ?_)))))))
 exact GL.jump (fun _ _ h => h) (false, (decide (((Sl.len x102 : Int) : Int) ≤ 16))) h ⟨rfl, rfl, rfl, trivial⟩
 replace h := h.2 hc104
 refine Zj 4 rfl ⟨_, rfl, .inl ⟨_, rfl, hc104⟩⟩ (Zj 5 rfl ⟨_, rfl, .inl ⟨_, rfl, hc104⟩⟩ (Zj 6 rfl ⟨_, rfl, .inl ⟨_, rfl, hc104⟩⟩ (Zp 7 rfl (OV.pickF rfl hc104 rfl) (Zp 8 rfl (OV.move rfl) (Zj 9 rfl ⟨_, rfl, .inl ⟨_, rfl, rfl⟩⟩ (Zj 10 rfl ⟨_, rfl, .inl ⟨_, rfl, rfl⟩⟩ (Zj 11 rfl ⟨_, rfl, .inl ⟨_, rfl, rfl⟩⟩ (Zj 12 rfl ⟨_, rfl, .inl ⟨_, rfl, rfl⟩⟩ (Zp 13 rfl (OV.pickF rfl rfl rfl) (Zp 18 rfl (OV.assign rfl) (Zp 19 rfl (OV.assign rfl) ?_)))))))))))
 refine GA.done (by kernel_rfl) ?_
 exact GL.jump (fun _ _ h => h) (false, (decide (((Sl.len x102 : Int) : Int) ≤ 16))) h ⟨rfl, rfl, rfl, trivial⟩
 intro x95 H96 h
 replace h := hR97 x95 H96 h
 exact GL.jump (fun _ _ h => h) (x95.1, x95.2) h ⟨rfl, rfl, rfl, trivial⟩
 replace h := h.2 hc93
 refine Zo (Zi (.bool ((x23 : Int) == 6)) (Za (GL.nil ?_)))
 refine Zd (fun hc110 => ?_) fun hc110 => ?_
 replace h := h.1 hc110
 refine Zo (Zf ?_)
 obtain ⟨x111, hr112, h⟩ := h
 refine Zl hr112 (Zc h ok_strings_Cut ?_)
 rintro _ H116 ⟨r113, r114, r115, rfl, h⟩
 refine Zm (Zv (OV.extract (v := sv r113) rfl rfl) (Zv (OV.extract (v := sv r114) rfl rfl) (Zv (OV.extract (v := .bool r115) rfl rfl) (Za (Za (Za (GL.nil ?_)))))))
 obtain ⟨J117, h, hR120⟩ := h
 refine GC.meet (α := Bool × Bool) J117 (fun x118 => [(2, .bool x118.1), (3, .bool x118.2), (1, pv (some (b1, 0)))]) ?_ ?_
 obtain ⟨Hs121, hle122, h⟩ := h
 refine GC.any (Hs := Hs121) (by kernel_rfl) hle122 (Zp 0 rfl (OV.fieldAddr rfl rfl) ?_)
 obtain ⟨x123, hr124, h⟩ := h
 refine Zp 1 rfl (OV.load rfl rfl hr124) (Zp 2 rfl (OV.ibin (v := .bool ((x123 : Int) == 0)) rfl rfl rfl) (Zp 3 rfl (OV.move rfl) (Zp 28 rfl (OV.fieldAddr rfl rfl) ?_)))
 obtain ⟨x125, hr126, h⟩ := h
 refine Zp 29 rfl (OV.load rfl rfl hr126) (Zp 30 rfl (OV.lenSl rfl rfl) (Zp 31 rfl (OV.ibin (v := .bool (decide (((Sl.len x125 : Int) : Int) ≤ 8))) rfl rfl rfl) ?_))
 rcases Zb ((x123 : Int) == 0) with hc127 | hc127
 replace h := h.1 hc127
 refine Zg 4 rfl ⟨_, _, rfl, rfl, hc127⟩ (OV.move rfl) (GA.eff 5 rfl (by kernel_rfl) (GL.call h ⟨_, _, rfl, rfl, hc127⟩ rfl ok_value_name (vs := [sv r113]) rfl ?_))
 rintro _ H130 ⟨r129, rfl, h⟩
 obtain ⟨hle128, h⟩ := h
 refine GA.back hle128 (Zp 6 rfl (OV.pickT rfl hc127 rfl) (Zp 7 rfl (OV.move rfl) ?_))
 rcases Bool.eq_false_or_eq_true r129 with hc131 | hc131
 replace h := h.1 hc131
 refine Zg 8 rfl ⟨_, _, rfl, rfl, hc131⟩ (OV.move rfl) (Zg 9 rfl ⟨_, _, rfl, rfl, hc131⟩ (OV.move rfl) ?_)
 rcases Bool.eq_false_or_eq_true r115 with hc132 | hc132
 replace h := h.1 hc132
 refine Zg 10 rfl ⟨_, _, rfl, rfl, hc132⟩ (OV.move rfl) (GA.eff 11 rfl (by kernel_rfl) (GL.call h ⟨_, _, rfl, rfl, hc132⟩ rfl ok_value_name (vs := [sv r114]) rfl ?_))
 rintro _ H135 ⟨r134, rfl, h⟩
 obtain ⟨hle133, h⟩ := h
 refine GA.back hle133 (Zg 12 rfl ⟨_, _, rfl, rfl, hc131⟩ (OV.pickT rfl hc132 rfl) (Zg 13 rfl ⟨_, _, rfl, rfl, hc131⟩ (OV.move rfl) ?_))
 rcases Bool.eq_false_or_eq_true r134 with hc136 | hc136
 replace h := h.1 hc136
 refine Zj 14 rfl ⟨_, rfl, .inl ⟨_, rfl, hc136⟩⟩ (Zj 15 rfl ⟨_, rfl, .inl ⟨_, rfl, hc136⟩⟩ (Zj 16 rfl ⟨_, rfl, .inl ⟨_, rfl, hc136⟩⟩ (Zj 17 rfl ⟨_, rfl, .inr rfl⟩ (Zj 18 rfl ⟨_, rfl, .inr rfl⟩ (Zj 19 rfl ⟨_, rfl, .inr rfl⟩ (Zj 20 rfl ⟨_, rfl, .inl ⟨_, rfl, hc136⟩⟩ (Zj 21 rfl ⟨_, rfl, .inl ⟨_, rfl, hc136⟩⟩ (Zj 22 rfl ⟨_, rfl, .inr rfl⟩ (Zj 23 rfl ⟨_, rfl, .inr rfl⟩ (Zj 24 rfl ⟨_, rfl, .inr rfl⟩ (Zj 25 rfl ⟨_, rfl, .inl ⟨_, rfl, hc136⟩⟩ ?_)))))))))))
 refine Zg 26 rfl ⟨_, _, rfl, rfl, hc131⟩ (OV.pickT rfl hc136 rfl) (Zp 27 rfl (OV.pickT rfl hc131 rfl) (Zp 32 rfl (OV.assign rfl) (Zp 33 rfl (OV.assign rfl) (GA.done (by kernel_rfl) ?_))))
 exact GL.jump (fun _ _ h => h) (true, (decide (((Sl.len x125 : Int) : Int) ≤ 8))) h ⟨rfl, rfl, rfl, trivial⟩
 replace h := h.2 hc136
 refine Zg 14 rfl ⟨_, _, rfl, rfl, hc136⟩ (OV.move rfl) (Zg 15 rfl ⟨_, _, rfl, rfl, hc136⟩ (OV.not rfl) (Zg 16 rfl ⟨_, _, rfl, rfl, hc136⟩ (OV.move rfl) ?_))
 rcases Zb (!r115) with hc137 | hc137
 replace h := h.1 hc137
 refine Zg 17 rfl ⟨_, _, rfl, rfl, hc137⟩ (OV.fieldAddr rfl rfl) ?_
 obtain ⟨x138, hr139, h⟩ := h
 refine Zg 18 rfl ⟨_, _, rfl, rfl, hc137⟩ (OV.load rfl rfl hr139) (Zg 19 rfl ⟨_, _, rfl, rfl, hc137⟩ (OV.sbin (a := x138) (b := ([116, 114, 117, 101] : Str)) (v := .bool (!(x138 == ([116, 114, 117, 101] : Str)))) rfl rfl rfl) (Zg 20 rfl ⟨_, _, rfl, rfl, hc136⟩ (OV.pickT rfl hc137 rfl) (Zg 21 rfl ⟨_, _, rfl, rfl, hc136⟩ (OV.move rfl) ?_)))
 rcases Zb (!(x138 == ([116, 114, 117, 101] : Str))) with hc140 | hc140
 replace h := h.1 hc140
 refine Zg 22 rfl ⟨_, _, rfl, rfl, hc140⟩ (OV.fieldAddr rfl rfl) ?_
 obtain ⟨x141, hr142, h⟩ := h
 refine Zg 23 rfl ⟨_, _, rfl, rfl, hc140⟩ (OV.load rfl rfl hr142) (Zg 24 rfl ⟨_, _, rfl, rfl, hc140⟩ (OV.sbin (a := x141) (b := ([102, 97, 108, 115, 101] : Str)) (v := .bool (!(x141 == ([102, 97, 108, 115, 101] : Str)))) rfl rfl rfl) (Zg 25 rfl ⟨_, _, rfl, rfl, hc136⟩ (OV.pickT rfl hc140 rfl) (Zg 26 rfl ⟨_, _, rfl, rfl, hc131⟩ (OV.pickF rfl hc136 rfl) (Zp 27 rfl (OV.pickT rfl hc131 rfl) (Zp 32 rfl (OV.assign rfl) (Zp 33 rfl (OV.assign rfl) (GA.done (by kernel_rfl) ?_)))))))
 exact GL.jump (fun _ _ h => h) ((!(x141 == ([102, 97, 108, 115, 101] : Str))), (decide (((Sl.len x125 : Int) : Int) ≤ 8))) h ⟨rfl, rfl, rfl, trivial⟩
 replace h := h.2 hc140
 refine Zj 22 rfl ⟨_, rfl, .inl ⟨_, rfl, hc140⟩⟩ (Zj 23 rfl ⟨_, rfl, .inl ⟨_, rfl, hc140⟩⟩ (Zj 24 rfl ⟨_, rfl, .inl ⟨_, rfl, hc140⟩⟩ (Zg 25 rfl ⟨_, _, rfl, rfl, hc136⟩ (OV.pickF rfl hc140 rfl) (Zg 26 rfl ⟨_, _, rfl, rfl, hc131⟩ (OV.pickF rfl hc136 rfl) (Zp 27 rfl (OV.pickT rfl hc131 rfl) (Zp 32 rfl (OV.assign rfl) (Zp 33 rfl (OV.assign rfl) (GA.done (by kernel_rfl) ?_))))))))
 exact GL.jump (fun _ _ h => h) (false, (decide (((Sl.len x125 : Int) : Int) ≤ 8))) h ⟨rfl, rfl, rfl, trivial⟩
 replace h := h.2 hc137
 refine Zj 17 rfl ⟨_, rfl, .inl ⟨_, rfl, hc137⟩⟩ (Zj 18 rfl ⟨_, rfl, .inl ⟨_, rfl, hc137⟩⟩ (Zj 19 rfl ⟨_, rfl, .inl ⟨_, rfl, hc137⟩⟩ (Zg 20 rfl ⟨_, _, rfl, rfl, hc136⟩ (OV.pickF rfl hc137 rfl) (Zg 21 rfl ⟨_, _, rfl, rfl, hc136⟩ (OV.move rfl) (Zj 22 rfl ⟨_, rfl, .inl ⟨_, rfl, rfl⟩⟩ (Zj 23 rfl ⟨_, rfl, .inl ⟨_, rfl, rfl⟩⟩ (Zj 24 rfl ⟨_, rfl, .inl ⟨_, rfl, rfl⟩⟩ (Zg 25 rfl ⟨_, _, rfl, rfl, hc136⟩ (OV.pickF rfl rfl rfl) (Zg 26 rfl ⟨_, _, rfl, rfl, hc131⟩ (OV.pickF rfl hc136 rfl) (Zp 27 rfl (OV.pickT rfl hc131 rfl) (Zp 32 rfl (OV.assign rfl) ?_)))))))))))
 refine Zp 33 rfl (OV.assign rfl) (GA.done (by kernel_rfl) ?_)
 exact GL.jump (fun _ _ h => h) (false, (decide (((Sl.len x125 : Int) : Int) ≤ 8))) h ⟨rfl, rfl, rfl, trivial⟩
 replace h := h.2 hc132
 refine Zj 10 rfl ⟨_, rfl, .inl ⟨_, rfl, hc132⟩⟩ (Zj 11 rfl ⟨_, rfl, .inl ⟨_, rfl, hc132⟩⟩ (Zg 12 rfl ⟨_, _, rfl, rfl, hc131⟩ (OV.pickF rfl hc132 rfl) (Zg 13 rfl ⟨_, _, rfl, rfl, hc131⟩ (OV.move rfl) (Zg 14 rfl ⟨_, _, rfl, rfl, rfl⟩ (OV.move rfl) (Zg 15 rfl ⟨_, _, rfl, rfl, rfl⟩ (OV.not rfl) (Zg 16 rfl ⟨_, _, rfl, rfl, rfl⟩ (OV.move rfl) ?_))))))
 rcases Zb (!r115) with hc143 | hc143
 replace h := h.1 hc143
 refine Zg 17 rfl ⟨_, _, rfl, rfl, hc143⟩ (OV.fieldAddr rfl rfl) ?_
 obtain ⟨x144, hr145, h⟩ := h
 refine Zg 18 rfl ⟨_, _, rfl, rfl, hc143⟩ (OV.load rfl rfl hr145) (Zg 19 rfl ⟨_, _, rfl, rfl, hc143⟩ (OV.sbin (a := x144) (b := ([116, 114, 117, 101] : Str)) (v := .bool (!(x144 == ([116, 114, 117, 101] : Str)))) rfl rfl rfl) (Zg 20 rfl ⟨_, _, rfl, rfl, rfl⟩ (OV.pickT rfl hc143 rfl) (Zg 21 rfl ⟨_, _, rfl, rfl, rfl⟩ (OV.move rfl) ?_)))
 rcases Zb (!(x144 == ([116, 114, 117, 101] : Str))) with hc146 | hc146
 replace h := h.1 hc146
 refine Zg 22 rfl ⟨_, _, rfl, rfl, hc146⟩ (OV.fieldAddr rfl rfl) ?_
 obtain ⟨x147, hr148, h⟩ := h
 refine Zg 23 rfl ⟨_, _, rfl, rfl, hc146⟩ (OV.load rfl rfl hr148) (Zg 24 rfl ⟨_, _, rfl, rfl, hc146⟩ (OV.sbin (a := x147) (b := ([102, 97, 108, 115, 101] : Str)) (v := .bool (!(x147 == ([102, 97, 108, 115, 101] : Str)))) rfl rfl rfl) (Zg 25 rfl ⟨_, _, rfl, rfl, rfl⟩ (OV.pickT rfl hc146 rfl) (Zg 26 rfl ⟨_, _, rfl, rfl, hc131⟩ (OV.pickF rfl rfl rfl) (Zp 27 rfl (OV.pickT rfl hc131 rfl) (Zp 32 rfl (OV.assign rfl) (Zp 33 rfl (OV.assign rfl) (GA.done (by kernel_rfl) ?_)))))))
 exact GL.jump (fun _ _ h => h) ((!(x147 == ([102, 97, 108, 115, 101] : Str))), (decide (((Sl.len x125 : Int) : Int) ≤ 8))) h ⟨rfl, rfl, rfl, trivial⟩
 replace h := h.2 hc146
 refine Zj 22 rfl ⟨_, rfl, .inl ⟨_, rfl, hc146⟩⟩ (Zj 23 rfl ⟨_, rfl, .inl ⟨_, rfl, hc146⟩⟩ (Zj 24 rfl ⟨_, rfl, .inl ⟨_, rfl, hc146⟩⟩ (Zg 25 rfl ⟨_, _, rfl, rfl, rfl⟩ (OV.pickF rfl hc146 rfl) (Zg 26 rfl ⟨_, _, rfl, rfl, hc131⟩ (OV.pickF rfl rfl rfl) (Zp 27 rfl (OV.pickT rfl hc131 rfl) (Zp 32 rfl (OV.assign rfl) (Zp 33 rfl (OV.assign rfl) (GA.done (by kernel_rfl) ?_))))))))
 exact GL.jump (fun _ _ h => h) (false, (decide (((Sl.len x125 : Int) : Int) ≤ 8))) h ⟨rfl, rfl, rfl, trivial⟩
 replace h := h.2 hc143
 refine Zj 17 rfl ⟨_, rfl, .inl ⟨_, rfl, hc143⟩⟩ (Zj 18 rfl ⟨_, rfl, .inl ⟨_, rfl, hc143⟩⟩ (Zj 19 rfl ⟨_, rfl, .inl ⟨_, rfl, hc143⟩⟩ (Zg 20 rfl ⟨_, _, rfl, rfl, rfl⟩ (OV.pickF rfl hc143 rfl) (Zg 21 rfl ⟨_, _, rfl, rfl, rfl⟩ (OV.move rfl) (Zj 22 rfl ⟨_, rfl, .inl ⟨_, rfl, rfl⟩⟩ (Zj 23 rfl ⟨_, rfl, .inl ⟨_, rfl, rfl⟩⟩ (Zj 24 rfl ⟨_, rfl, .inl ⟨_, rfl, rfl⟩⟩ (Zg 25 rfl ⟨_, _, rfl, rfl, rfl⟩ (OV.pickF rfl rfl rfl) (Zg 26 rfl ⟨_, _, rfl, rfl, hc131⟩ (OV.pickF rfl rfl rfl) (Zp 27 rfl (OV.pickT rfl hc131 rfl) (Zp 32 rfl (OV.assign rfl) ?_)))))))))))
 refine Zp 33 rfl (OV.assign rfl) (GA.done (by kernel_rfl) ?_)
 exact GL.jump (fun _ _ h => h) (false, (decide (((Sl.len x125 : Int) : Int) ≤ 8))) h ⟨rfl, rfl, rfl, trivial⟩
 replace h := h.2 hc131
 refine Zj 8 rfl ⟨_, rfl, .inl ⟨_, rfl, hc131⟩⟩ (Zj 9 rfl ⟨_, rfl, .inl ⟨_, rfl, hc131⟩⟩ (Zj 10 rfl ⟨_, rfl, .inr rfl⟩ (Zj 11 rfl ⟨_, rfl, .inr rfl⟩ (Zj 12 rfl ⟨_, rfl, .inl ⟨_, rfl, hc131⟩⟩ (Zj 13 rfl ⟨_, rfl, .inl ⟨_, rfl, hc131⟩⟩ (Zj 14 rfl ⟨_, rfl, .inr rfl⟩ (Zj 15 rfl ⟨_, rfl, .inr rfl⟩ (Zj 16 rfl ⟨_, rfl, .inr rfl⟩ (Zj 17 rfl ⟨_, rfl, .inr rfl⟩ (Zj 18 rfl ⟨_, rfl, .inr rfl⟩ (Zj 19 rfl ⟨_, rfl, .inr rfl⟩ ?_)))))))))))
 refine Zj 20 rfl ⟨_, rfl, .inr rfl⟩ (Zj 21 rfl ⟨_, rfl, .inr rfl⟩ (Zj 22 rfl ⟨_, rfl, .inr rfl⟩ (Zj 23 rfl ⟨_, rfl, .inr rfl⟩ (Zj 24 rfl ⟨_, rfl, .inr rfl⟩ (Zj 25 rfl ⟨_, rfl, .inr rfl⟩ (Zj 26 rfl ⟨_, rfl, .inl ⟨_, rfl, hc131⟩⟩ (Zp 27 rfl (OV.pickF rfl hc131 rfl) (Zp 32 rfl (OV.assign rfl) (Zp 33 rfl (OV.assign rfl) (GA.done (by kernel_rfl) ?_))))))))))
 exact GL.jump (fun _ _ h => h) (false, (decide (((Sl.len x125 : Int) : Int) ≤ 8))) h ⟨rfl, rfl, rfl, trivial⟩
 replace h := h.2 hc127
 refine Zj 4 rfl ⟨_, rfl, .inl ⟨_, rfl, hc127⟩⟩ (Zj 5 rfl ⟨_, rfl, .inl ⟨_, rfl, hc127⟩⟩ (Zp 6 rfl (OV.pickF rfl hc127 rfl) (Zp 7 rfl (OV.move rfl) (Zj 8 rfl ⟨_, rfl, .inl ⟨_, rfl, rfl⟩⟩ (Zj 9 rfl ⟨_, rfl, .inl ⟨_, rfl, rfl⟩⟩ (Zj 10 rfl ⟨_, rfl, .inr rfl⟩ (Zj 11 rfl ⟨_, rfl, .inr rfl⟩ (Zj 12 rfl ⟨_, rfl, .inl ⟨_, rfl, rfl⟩⟩ (Zj 13 rfl ⟨_, rfl, .inl ⟨_, rfl, rfl⟩⟩ (Zj 14 rfl ⟨_, rfl, .inr rfl⟩ (Zj 15 rfl ⟨_, rfl, .inr rfl⟩ ?_)))))))))))
 refine Zj 16 rfl ⟨_, rfl, .inr rfl⟩ (Zj 17 rfl ⟨_, rfl, .inr rfl⟩ (Zj 18 rfl ⟨_, rfl, .inr rfl⟩ (Zj 19 rfl ⟨_, rfl, .inr rfl⟩ (Zj 20 rfl ⟨_, rfl, .inr rfl⟩ (Zj 21 rfl ⟨_, rfl, .inr rfl⟩ (Zj 22 rfl ⟨_, rfl, .inr rfl⟩ (Zj 23 rfl ⟨_, rfl, .inr rfl⟩ (Zj 24 rfl ⟨_, rfl, .inr rfl⟩ (Zj 25 rfl ⟨_, rfl, .inr rfl⟩ (Zj 26 rfl ⟨_, rfl, .inl ⟨_, rfl, rfl⟩⟩ (Zp 27 rfl (OV.pickF rfl rfl rfl) ?_)))))))))))
 refine Zp 32 rfl (OV.assign rfl) (Zp 33 rfl (OV.assign rfl) (GA.done (by kernel_rfl) ?_))
 exact GL.jump (fun _ _ h => h) (false, (decide (((Sl.len x125 : Int) : Int) ≤ 8))) h ⟨rfl, rfl, rfl, trivial⟩
 intro x118 H119 h
 replace h := hR120 x118 H119 h
 exact GL.jump (fun _ _ h => h) (x118.1, x118.2) h ⟨rfl, rfl, rfl, trivial⟩
 replace h := h.2 hc110
 refine GC.region (Za ?_)
 exact GL.jump (fun _ _ h => h) (false, true) h ⟨rfl, rfl, rfl, trivial⟩
 intro x20 H21 h
 replace h := hR22 x20 H21 h
 refine GC.seq (Zo (Zf ?_))
 obtain ⟨x149, hr150, h⟩ := h
 refine Zl hr150 (Zq (Zm (GL.nil (GC.block (GC.loop (α := Bool × Bool × Int) h (fun x151 => [(2, .bool x151.1), (3, .bool x151.2.1), (162, .int .i64 x151.2.2), (160, slv x149), (161, .int .i64 (Sl.len x149 : Int))]) ⟨rfl, rfl, rfl, rfl, rfl, trivial⟩ ?_)))))
 intro x151 H153 J152 h
 refine Zo (Zi (.bool (decide ((x151.2.2 : Int) < (Sl.len x149 : Int)))) (GL.nil (GC.seq ?_)))
 refine Zd (fun hc154 => ?_) fun hc154 => ?_
 replace h := h.1 hc154
 refine GC.skip (GC.seq (GC.block (Zo ?_)))
 obtain ⟨p155, ha156, hb157, hc158, hd159, h⟩ := h
 refine Zx ha156 hb157 hc158 hd159 ?_
 obtain ⟨x160, hr161, h⟩ := h
 refine Zv (OV.loadT rfl rfl rfl hr161) (GL.alloc (cs := T_api_Value.c T_api_Value.zero) h trivial rfl rfl rfl ?_)
 intro b162 H163 h
 refine GL.storeT (p := (b162, 0)) (vs := T_api_Value.c x160) h trivial rfl rfl rfl rfl ?_
 intro H164 h
 refine GL.nil (Zo ?_)
 obtain ⟨x165, hr166, h⟩ := h
 refine Zv (OV.loadT rfl rfl rfl hr166) (Zc h ok_value_item_look ?_)
 rintro _ H169 ⟨r167, r168, rfl, h⟩
 refine Zm (Zv (OV.extract (v := .bool r167) rfl rfl) (Zv (OV.extract (v := .bool r168) rfl rfl) (Za (Za (GL.nil (GC.region (Zm (Zm ?_))))))))
 refine GL.cut0 2 [(174, .bool (x151.1 && r167)), (3, .bool x151.2.1), (12, .bool r168), (160, slv x149), (161, .int .i64 (Sl.len x149 : Int)), (162, .int .i64 x151.2.2)] ?_ ?_
 rcases Bool.eq_false_or_eq_true x151.1 with hc170 | hc170
 refine Zu hc170 (OV.move rfl) (Zt hc170 ?_)
 exact GL.jump0 (fun _ _ h => h) () rfl ⟨(by rw [hc170]; rfl), rfl, rfl, rfl, rfl, rfl, trivial⟩
 refine Zk hc170 (Zn hc170 ?_)
 exact GL.jump0 (fun _ _ h => h) () rfl ⟨(by rw [hc170]; rfl), rfl, rfl, rfl, rfl, rfl, trivial⟩
 refine Zm (Zm ?_)
 refine GL.cut0 2 [(178, .bool (x151.2.1 && r168)), (160, slv x149), (161, .int .i64 (Sl.len x149 : Int)), (162, .int .i64 x151.2.2), (174, .bool (x151.1 && r167))] ?_ ?_
 rcases Bool.eq_false_or_eq_true x151.2.1 with hc171 | hc171
 refine Zu hc171 (OV.move rfl) (Zt hc171 ?_)
 exact GL.jump0 (fun _ _ h => h) () rfl ⟨(by rw [hc171]; rfl), rfl, rfl, rfl, rfl, trivial⟩
 refine Zk hc171 (Zn hc171 ?_)
 exact GL.jump0 (fun _ _ h => h) () rfl ⟨(by rw [hc171]; rfl), rfl, rfl, rfl, rfl, trivial⟩
 refine Za (Za (GL.nil_to (fun _ _ h => h) (GC.region (Zi (.int .i64 (w .i64 (x151.2.2 + 1))) (Zm ?_)))))
 exact GL.jump (fun _ _ h => h) ((x151.1 && r167), (x151.2.1 && r168), (w .i64 (x151.2.2 + 1))) h ⟨rfl, rfl, rfl, rfl, rfl, trivial⟩
 replace h := h.2 hc154
 refine GC.exit_to (fun _ _ h => h) (Zo (Zm (Zm (Za (Za (GL.nil ?_))))))
 exact GC.ret (fun _ _ hf hs => post_tmp2 rfl rfl rfl hf hs ⟨x151.1, x151.2.1, rfl, h⟩)
def sh_ref02_SameRow (C : Ctx) (p_a : Sl) (p_b : Sl) (K : Bool → Heap → Prop) (H : Heap) : Prop :=
 ift (((Sl.len p_a : Int) : Int) != (Sl.len p_b : Int))
 (K false H)
 (lp (α := Int) 0 H (fun x2 J3 H4 =>
 ift (decide ((x2 : Int) < (Sl.len p_a : Int)))
 (dr H4 fun Hs6 =>
 ixa p_a x2 fun p8 =>
 ldT Hs6 T_api_Value.c (p8.1, p8.2 + (x2 : Int).toNat * 4) fun x13 =>
 ixa p_b x2 fun p15 =>
 ldT Hs6 T_api_Value.c (p15.1, p15.2 + (x2 : Int).toNat * 4) fun x20 =>
 c_ref02_Same C x13 x20 (fun r23 H24 =>
 Heap.le Hs6 H24 ∧
 ift (!r23)
 (K false H24)
 (J3 (w .i64 (x2 + 1)) H24)) H4)
 (K true H4)))
theorem ad_ref02_SameRow (C : Ctx) (p_a : Sl) (p_b : Sl) (K : Bool → Heap → Prop) (H : Heap) (h : sh_ref02_SameRow C p_a p_b K H) : c_ref02_SameRow C p_a p_b K H := by
 refine Spec.enter Tryd.func37 rfl Tryd.ntmps37 rfl (GC.sub [(0, slv p_a), (1, slv p_b)] ⟨rfl, rfl, trivial⟩ (Zo (Za (GL.nil (GC.seq (Zo (Zm (Zq (Zm (Zq (Zi (.bool (((Sl.len p_a : Int) : Int) != (Sl.len p_b : Int))) ?_)))))))))))
 refine GL.nil ?_
 refine Zd (fun hc1 => ?_) fun hc1 => ?_
 replace h := h.1 hc1
 refine Zo (Za (GL.nil ?_))
 exact GC.ret (fun _ _ hf hs => post_tmp1 rfl rfl hf hs ⟨false, rfl, h⟩)
 replace h := h.2 hc1
 refine GC.skip (GC.seq (Zo (Za (GL.nil (GC.block (GC.loop (α := Int) h (fun x2 => [(5, .int .i64 x2), (0, slv p_a), (1, slv p_b)]) ⟨rfl, rfl, rfl, trivial⟩ ?_))))))
 intro x2 H4 J3 h
 refine GC.seq (Zo (Zm (Zm (Zq (Zi (.bool (decide ((x2 : Int) < (Sl.len p_a : Int)))) (GL.nil ?_))))))
 refine Zd (fun hc5 => ?_) fun hc5 => ?_
 replace h := h.1 hc5
 refine GC.skip (GC.seq (GC.block (GC.seq ?_)))
 obtain ⟨Hs6, hle7, h⟩ := h
 refine GC.any (Hs := Hs6) (by kernel_rfl) hle7 (Zp 0 rfl (OV.move rfl) (Zp 1 rfl (OV.move rfl) ?_))
 obtain ⟨p8, ha9, hb10, hc11, hd12, h⟩ := h
 refine Zp 2 rfl (OV.indexAddr rfl rfl rfl rfl ha9 hb10 hc11 hd12) ?_
 obtain ⟨x13, hr14, h⟩ := h
 refine Zp 3 rfl (OV.loadT rfl rfl rfl hr14) (Zp 4 rfl (OV.move rfl) (Zp 5 rfl (OV.move rfl) ?_))
 obtain ⟨p15, ha16, hb17, hc18, hd19, h⟩ := h
 refine Zp 6 rfl (OV.indexAddr rfl rfl rfl rfl ha16 hb17 hc18 hd19) ?_
 obtain ⟨x20, hr21, h⟩ := h
 refine Zp 7 rfl (OV.loadT rfl rfl rfl hr21) (GA.eff 8 rfl (by kernel_rfl) (Zc h ok_ref02_Same ?_))
 rintro _ H24 ⟨r23, rfl, h⟩
 obtain ⟨hle22, h⟩ := h
 refine GA.back hle22 (Zp 9 rfl (OV.not rfl) (GA.done (by kernel_rfl) (GL.nil ?_)))
 refine Zd (fun hc25 => ?_) fun hc25 => ?_
 replace h := h.1 hc25
 refine Zo (Za (GL.nil ?_))
 exact GC.ret (fun _ _ hf hs => post_tmp1 rfl rfl hf hs ⟨false, rfl, h⟩)
 replace h := h.2 hc25
 refine GC.skip_to (fun _ _ h => h) (GC.region (Zm (Zi (.int .i64 (w .i64 (x2 + 1))) (Za ?_))))
 exact GL.jump (fun _ _ h => h) (w .i64 (x2 + 1)) h ⟨rfl, rfl, rfl, trivial⟩
 replace h := h.2 hc5
 refine GC.exit_to (fun _ _ h => h) (Zo (Za (GL.nil ?_)))
 exact GC.ret (fun _ _ hf hs => post_tmp1 rfl rfl hf hs ⟨true, rfl, h⟩)
def sh_zset_each_1 (C : Ctx) (Y : List Value → (Bool → Heap → Prop) → Heap → Prop) (v0 : Nat × Nat) (K : Heap → Prop) (H : Heap) : Prop :=
 ldL H v0 fun x1 =>
 lp (α := Int) 0 H (fun x3 J4 H5 =>
 ift (decide ((x3 : Int) < (Sl.len x1 : Int)))
 (ixa x1 x3 fun p7 =>
 ldT H5 T_zset_part.c (p7.1, p7.2 + (x3 : Int).toNat * 2) fun x12 =>
 nw (T_zset_part.c T_zset_part.zero) (fun b14 H15 =>
 (List.all (T_zset_part.c x12) Value.oneCell' = true) ∧
 stT (b14, 0) (T_zset_part.c x12) (fun H16 =>
 ldL H16 ((b14, 0).1, (b14, 0).2 + 0) fun x18 =>
 lp (α := Int) 0 H16 (fun x20 J21 H22 =>
 ift (decide ((x20 : Int) < (Sl.len x18 : Int)))
 (ixa x18 x20 fun p24 =>
 ldT H22 T_zset_Entry.c (p24.1, p24.2 + (x20 : Int).toNat * 2) fun x29 =>
 nw (T_zset_Entry.c T_zset_Entry.zero) (fun b31 H32 =>
 stT (b31, 0) (T_zset_Entry.c x29) (fun H33 =>
 ldT H33 T_zset_Entry.c (b31, 0) fun x34 =>
 ldV H33 ((b14, 0).1, (b14, 0).2 + 1) fun x36 =>
 Y [.agg (T_zset_Entry.c x34).toArray, x36] (fun r38 H39 =>
 ift (!r38)
 (K H39)
 (J21 (w .i64 (x20 + 1)) H39)) H33) H32) H22)
 (J4 (w .i64 (x3 + 1)) H22))) H15) H5)
 (K H5))
theorem ad_zset_each_1 (C : Ctx) {yl : Nat} {Y : List Value → (Bool → Heap → Prop) → Heap → Prop} (hy : Rf.YldS Tryd.prog C yl Y) (v0 : Nat × Nat) (K : Heap → Prop) (H : Heap) (h : sh_zset_each_1 C Y v0 K H) : c_zset_each_1 C (.func (.yield yl) (List.toArray []) (List.toArray []) : Value) v0 K H := by
 refine Rf.Spec.enterI Tryd.func38 rfl Tryd.ntmps38 rfl ?_
 refine Rf.GI.sub [(0, .func (.yield yl) (List.toArray []) (List.toArray [])), (1, pv (some v0))] ⟨rfl, rfl, trivial⟩ ?_
 refine Rf.GI.seq ?_
 refine Rf.GI.region (fun _ _ h => h) rfl ?_
 obtain ⟨x1, hr2, h⟩ := h
 refine Zl hr2 (Zq (Zm ?_))
 refine Rf.GI.nil ?_
 refine Rf.GI.block ?_
 refine Rf.GI.loop (α := Int) h (fun x3 => [(9, .int .i64 x3), (0, .func (.yield yl) (List.toArray []) (List.toArray [])), (7, slv x1), (8, .int .i64 (Sl.len x1 : Int))]) ⟨rfl, rfl, rfl, rfl, trivial⟩ ?_
 intro x3 H5 J4 h
 refine Rf.GI.seq ?_
 refine Rf.GI.region (fun _ _ h => h) rfl ?_
 refine Zi (.bool (decide ((x3 : Int) < (Sl.len x1 : Int)))) ?_
 refine Rf.GI.nil ?_
 refine Rf.GI.seq ?_
 refine Rf.GI.cond (b := decide ((x3 : Int) < (Sl.len x1 : Int))) rfl (fun hc6 => ?_) (fun hc6 => ?_)
 replace h := h.1 hc6
 refine Rf.GI.skip ?_
 refine Rf.GI.seq ?_
 refine Rf.GI.block ?_
 refine Rf.GI.seq ?_
 refine Rf.GI.region (fun _ _ h => h) rfl ?_
 obtain ⟨p7, ha8, hb9, hc10, hd11, h⟩ := h
 refine Zx ha8 hb9 hc10 hd11 ?_
 obtain ⟨x12, hr13, h⟩ := h
 refine Zv (OV.loadT rfl rfl rfl hr13) (GL.alloc (cs := T_zset_part.c T_zset_part.zero) h trivial rfl rfl rfl ?_)
 intro b14 H15 h
 obtain ⟨h117, h⟩ := h
 refine GL.storeT (p := (b14, 0)) (vs := T_zset_part.c x12) h trivial rfl rfl h117 rfl ?_
 intro H16 h
 refine Rf.GI.nil ?_
 refine Rf.GI.seq ?_
 refine Rf.GI.region (fun _ _ h => h) rfl ?_
 refine Zf ?_
 obtain ⟨x18, hr19, h⟩ := h
 refine Zl hr19 (Zq (Zm ?_))
 refine Rf.GI.nil ?_
 refine Rf.GI.block ?_
 refine Rf.GI.loop (α := Int) h (fun x20 => [(16, .int .i64 x20), (0, .func (.yield yl) (List.toArray []) (List.toArray [])), (4, pv (some (b14, 0))), (7, slv x1), (8, .int .i64 (Sl.len x1 : Int)), (9, .int .i64 x3), (14, slv x18), (15, .int .i64 (Sl.len x18 : Int))]) ⟨rfl, rfl, rfl, rfl, rfl, rfl, rfl, rfl, trivial⟩ ?_
 intro x20 H22 J21 h
 refine Rf.GI.seq ?_
 refine Rf.GI.region (fun _ _ h => h) rfl ?_
 refine Zi (.bool (decide ((x20 : Int) < (Sl.len x18 : Int)))) ?_
 refine Rf.GI.nil ?_
 refine Rf.GI.seq ?_
 refine Rf.GI.cond (b := decide ((x20 : Int) < (Sl.len x18 : Int))) rfl (fun hc23 => ?_) (fun hc23 => ?_)
 replace h := h.1 hc23
 refine Rf.GI.skip ?_
 refine Rf.GI.seq ?_
 refine Rf.GI.block ?_
 refine Rf.GI.seq ?_
 refine Rf.GI.region (fun _ _ h => h) rfl ?_
 obtain ⟨p24, ha25, hb26, hc27, hd28, h⟩ := h
 refine Zx ha25 hb26 hc27 hd28 ?_
 obtain ⟨x29, hr30, h⟩ := h
 refine Zv (OV.loadT rfl rfl rfl hr30) (GL.alloc (cs := T_zset_Entry.c T_zset_Entry.zero) h trivial rfl rfl rfl ?_)
 intro b31 H32 h
 refine GL.storeT (p := (b31, 0)) (vs := T_zset_Entry.c x29) h trivial rfl rfl rfl rfl ?_
 intro H33 h
 refine Rf.GI.nil ?_
 refine Rf.GI.seq ?_
 refine Rf.GI.regionL ?_
 refine Rf.GLI.pre 4 (fun _ _ h => h) rfl ?_
 refine Zm ?_
 obtain ⟨x34, hr35, h⟩ := h
 refine Zv (OV.loadT rfl rfl rfl hr35) (Zf ?_)
 obtain ⟨x36, hr37, h⟩ := h
 refine Zl hr37 ?_
 refine Rf.GI.nilL ?_
 refine Rf.GLI.yield (us := [.agg (T_zset_Entry.c x34).toArray, x36]) hy h trivial rfl rfl rfl ?_
 intro r38 H39 h
 refine Rf.GLI.ofGL (fun _ _ h => h) rfl ?_
 refine Zv (OV.not rfl) ?_
 refine Rf.GI.nil ?_
 refine Rf.GI.cond (b := !r38) rfl (fun hc40 => ?_) (fun hc40 => ?_)
 replace h := h.1 hc40
 exact Rf.GI.ret (fun _ _ hf hs => post_tmp0 rfl hf hs ⟨rfl, h⟩)
 replace h := h.2 hc40
 refine Rf.GI.skip_to (fun _ _ h => h) ?_
 refine Rf.GI.region (fun _ _ h => h) rfl ?_
 refine Zi (.int .i64 (w .i64 (x20 + 1))) (Zm ?_)
 exact GL.jump (fun _ _ h => h) (w .i64 (x20 + 1)) h ⟨rfl, rfl, rfl, rfl, rfl, rfl, rfl, rfl, trivial⟩
 replace h := h.2 hc23
 refine Rf.GI.exit_to (fun _ _ h => h) ?_
 refine Rf.GI.region (fun _ _ h => h) rfl ?_
 refine Zi (.int .i64 (w .i64 (x3 + 1))) (Zm ?_)
 exact GL.jump (fun _ _ h => h) (w .i64 (x3 + 1)) h ⟨rfl, rfl, rfl, rfl, trivial⟩
 replace h := h.2 hc6
 exact Rf.GI.exit_ends (fun _ _ hf hs => post_tmp0 rfl hf hs ⟨rfl, h⟩)
def sh_slices_IndexFunc_api_Value_api_Value (C : Ctx) (p_s : Sl) (p_f : Value) (K : Int → Heap → Prop) (H : Heap) : Prop :=
 lp (α := Int) 0 H (fun x1 J2 H3 =>
 ift (decide ((x1 : Int) < (Sl.len p_s : Int)))
 (ixa p_s x1 fun p5 =>
 ldT H3 T_api_Value.c (p5.1, p5.2 + (x1 : Int).toNat * 4) fun x10 =>
 callU Tryd.prog C p_f [.agg (T_api_Value.c x10).toArray] H3 (fun v H13 => ∃ (r12 : Bool), v = .bool r12 ∧
 ift r12
 (K x1 H13)
 (J2 (w .i64 (x1 + 1)) H13)))
 (K (-1) H3))
theorem ad_slices_IndexFunc_api_Value_api_Value (C : Ctx) (p_s : Sl) (p_f : Value) (K : Int → Heap → Prop) (H : Heap) (h : sh_slices_IndexFunc_api_Value_api_Value C p_s p_f K H) : c_slices_IndexFunc_api_Value_api_Value C p_s p_f K H := by
 refine Spec.enter Tryd.func39 rfl Tryd.ntmps39 rfl (GC.sub [(0, slv p_s), (1, p_f)] ⟨rfl, rfl, trivial⟩ (Zo (Za (GL.nil (GC.seq (Zo (Zm (Zq (Zm (GL.nil (GC.block ?_)))))))))))
 refine GC.loop (α := Int) h (fun x1 => [(8, .int .i64 x1), (0, slv p_s), (1, p_f), (7, .int .i64 (Sl.len p_s : Int))]) ⟨rfl, rfl, rfl, rfl, trivial⟩ ?_
 intro x1 H3 J2 h
 refine Zo (Zi (.bool (decide ((x1 : Int) < (Sl.len p_s : Int)))) (GL.nil (GC.seq ?_)))
 refine Zd (fun hc4 => ?_) fun hc4 => ?_
 replace h := h.1 hc4
 refine GC.skip (GC.seq (GC.block (Zo (Zm (Za (GL.nil (Zo (Zm (Zm (Zm ?_))))))))))
 obtain ⟨p5, ha6, hb7, hc8, hd9, h⟩ := h
 refine Zx ha6 hb7 hc8 hd9 ?_
 obtain ⟨x10, hr11, h⟩ := h
 refine Zv (OV.loadT rfl rfl rfl hr11) (GL.callU (xv := p_f) (vs := [.agg (T_api_Value.c x10).toArray]) h trivial rfl rfl rfl ?_)
 rintro _ H13 ⟨r12, rfl, h⟩
 refine GL.nil ?_
 refine Zd (fun hc14 => ?_) fun hc14 => ?_
 replace h := h.1 hc14
 refine Zo (Zm (Za (GL.nil ?_)))
 exact GC.ret (fun _ _ hf hs => post_tmp1 rfl rfl hf hs ⟨x1, rfl, h⟩)
 replace h := h.2 hc14
 refine GC.skip_to (fun _ _ h => h) (GC.region (Zi (.int .i64 (w .i64 (x1 + 1))) (Zm ?_)))
 exact GL.jump (fun _ _ h => h) (w .i64 (x1 + 1)) h ⟨rfl, rfl, rfl, rfl, trivial⟩
 replace h := h.2 hc4
 refine GC.exit_to (fun _ _ h => h) (Zo (Za (GL.nil ?_)))
 exact GC.ret (fun _ _ hf hs => post_tmp1 rfl rfl hf hs ⟨(-1), rfl, h⟩)
def sh_slices_stableCmpFunc_zset_Entry (C : Ctx) (p_data : Sl) (p_n : Int) (p_cmp : Value) (K : Heap → Prop) (H : Heap) : Prop :=
 lp (α := Int × Int) (0, 20) H (fun x1 J2 H3 =>
 ift (decide ((x1.2 : Int) ≤ p_n))
 (c_slices_insertionSortCmpFunc_zset_Entry C p_data x1.1 x1.2 p_cmp (fun H5 =>
 J2 (x1.2, (w .i64 (x1.2 + 20))) H5) H3)
 (c_slices_insertionSortCmpFunc_zset_Entry C p_data x1.1 p_n p_cmp (fun H6 =>
 lp (α := Int) 20 H6 (fun x7 J8 H9 =>
 ift (decide ((x7 : Int) < p_n))
 (lp (α := Int × Int) (0, (w .i64 (2 * x7))) H9 (fun x11 J12 H13 =>
 ift (decide ((x11.2 : Int) ≤ p_n))
 (c_slices_symMergeCmpFunc_zset_Entry C p_data x11.1 (w .i64 (x11.1 + x7)) x11.2 p_cmp (fun H15 =>
 J12 (x11.2, (w .i64 (x11.2 + (w .i64 (2 * x7))))) H15) H13)
 (jn (α := Unit) (fun x17 H18 =>
 J8 (w .i64 (x7 * 2)) H18)
 (fun J16 => ift (decide (((w .i64 (x11.1 + x7)) : Int) < p_n))
 (c_slices_symMergeCmpFunc_zset_Entry C p_data x11.1 (w .i64 (x11.1 + x7)) p_n p_cmp (fun H21 =>
 J16 () H21) H13)
 (J16 () H13)))))
 (K H9))) H3))
theorem ad_slices_stableCmpFunc_zset_Entry (C : Ctx) (p_data : Sl) (p_n : Int) (p_cmp : Value) (K : Heap → Prop) (H : Heap) (h : sh_slices_stableCmpFunc_zset_Entry C p_data p_n p_cmp K H) : c_slices_stableCmpFunc_zset_Entry C p_data p_n p_cmp K H := by
 refine Spec.enter Tryd.func40 rfl Tryd.ntmps40 rfl (GC.sub [(0, slv p_data), (1, .int .i64 p_n), (2, p_cmp)] ⟨rfl, rfl, rfl, trivial⟩ (Zo (Za (GL.nil (Zo (Zm (Za (Za (GL.nil (GC.seq (GC.block ?_)))))))))))
 refine GC.loop (α := Int × Int) h (fun x1 => [(7, .int .i64 x1.1), (8, .int .i64 x1.2), (0, slv p_data), (1, .int .i64 p_n), (2, p_cmp), (6, .int .i64 20)]) ⟨rfl, rfl, rfl, rfl, rfl, rfl, trivial⟩ ?_
 intro x1 H3 J2 h
 refine GC.seq (Zo (Zm (Zm (Zi (.bool (decide ((x1.2 : Int) ≤ p_n))) (GL.nil ?_)))))
 refine Zd (fun hc4 => ?_) fun hc4 => ?_
 replace h := h.1 hc4
 refine GC.skip (GC.block (Zo (Zm (Zm (Zm (Zm (Zc h ok_slices_insertionSortCmpFunc_zset_Entry ?_)))))))
 rintro _ H5 ⟨rfl, h⟩
 refine GL.nil (Zo (Zm (Za (GL.nil (GC.region (Zm (Zm (Zi (.int .i64 (w .i64 (x1.2 + 20))) (Za ?_)))))))))
 exact GL.jump (fun _ _ h => h) (x1.2, (w .i64 (x1.2 + 20))) h ⟨rfl, rfl, rfl, rfl, rfl, rfl, trivial⟩
 replace h := h.2 hc4
 refine GC.exit_to (fun _ _ h => h) (Zo (Zm (Zm (Zm (Zm (Zc h ok_slices_insertionSortCmpFunc_zset_Entry ?_))))))
 rintro _ H6 ⟨rfl, h⟩
 refine GL.nil (GC.block (GC.loop (α := Int) h (fun x7 => [(6, .int .i64 x7), (0, slv p_data), (1, .int .i64 p_n), (2, p_cmp)]) ⟨rfl, rfl, rfl, rfl, trivial⟩ ?_))
 intro x7 H9 J8 h
 refine GC.seq (Zo (Zm (Zm (Zi (.bool (decide ((x7 : Int) < p_n))) (GL.nil ?_)))))
 refine Zd (fun hc10 => ?_) fun hc10 => ?_
 replace h := h.1 hc10
 refine GC.skip (GC.block (Zo (Zm (Zi (.int .i64 (w .i64 (2 * x7))) (Za (Za (GL.nil (GC.seq (GC.block (GC.loop (α := Int × Int) h (fun x11 => [(7, .int .i64 x11.1), (8, .int .i64 x11.2), (0, slv p_data), (1, .int .i64 p_n), (2, p_cmp), (6, .int .i64 x7)]) ⟨rfl, rfl, rfl, rfl, rfl, rfl, trivial⟩ ?_))))))))))
 intro x11 H13 J12 h
 refine GC.seq (Zo (Zm (Zm (Zi (.bool (decide ((x11.2 : Int) ≤ p_n))) (GL.nil ?_)))))
 refine Zd (fun hc14 => ?_) fun hc14 => ?_
 replace h := h.1 hc14
 refine GC.skip (GC.block (Zo (Zm (Zm (Zm (Zm (Zi (.int .i64 (w .i64 (x11.1 + x7))) (Zm (Zm (Zc h ok_slices_symMergeCmpFunc_zset_Entry ?_))))))))))
 rintro _ H15 ⟨rfl, h⟩
 refine GL.nil (Zo (Zm (Za (GL.nil (GC.region (Zm (Zm (Zi (.int .i64 (w .i64 (2 * x7))) (Zi (.int .i64 (w .i64 (x11.2 + (w .i64 (2 * x7))))) (Za ?_))))))))))
 exact GL.jump (fun _ _ h => h) (x11.2, (w .i64 (x11.2 + (w .i64 (2 * x7))))) h ⟨rfl, rfl, rfl, rfl, rfl, rfl, trivial⟩
 replace h := h.2 hc14
 refine GC.exit_to (fun _ _ h => h) ?_
 obtain ⟨J16, h, hR19⟩ := h
 refine GC.join (α := Unit) J16 (fun _ => [(0, slv p_data), (1, .int .i64 p_n), (2, p_cmp), (6, .int .i64 x7)]) ?_ ?_
 refine Zo (Zm (Zm (Zi (.int .i64 (w .i64 (x11.1 + x7))) (Za (GL.nil (Zo (Zm (Zm (Zi (.bool (decide (((w .i64 (x11.1 + x7)) : Int) < p_n))) (GL.nil ?_))))))))))
 refine Zd (fun hc20 => ?_) fun hc20 => ?_
 replace h := h.1 hc20
 refine GC.region (Zm (Zm (Zm (Zm (Zm (Zc h ok_slices_symMergeCmpFunc_zset_Entry ?_))))))
 rintro _ H21 ⟨rfl, h⟩
 exact GL.jump (fun _ _ h => h) () h ⟨rfl, rfl, rfl, rfl, trivial⟩
 replace h := h.2 hc20
 exact GC.jump (fun _ _ h => h) () h ⟨rfl, rfl, rfl, rfl, trivial⟩
 intro x17 H18 h
 replace h := hR19 x17 H18 h
 refine GC.region (Zm (Zi (.int .i64 (w .i64 (x7 * 2))) (Za ?_)))
 exact GL.jump (fun _ _ h => h) (w .i64 (x7 * 2)) h ⟨rfl, rfl, rfl, rfl, trivial⟩
 replace h := h.2 hc10
 exact GC.exit_ends (fun _ _ hf hs => post_tmp0 rfl hf hs ⟨rfl, h⟩)
def sh_slices_Clone_api_Value_api_Value (C : Ctx) (p_s : Sl) (K : Sl → Heap → Prop) (H : Heap) : Prop :=
 ift (Sl.isNil p_s)
 (K Sl.nil H)
 (nw ([]) (fun b2 H3 =>
 apS (T_api_Value.c T_api_Value.zero) 56 (Sl.of (some (b2, 0)) 0 0) p_s (fun r4 H5 =>
 K r4 H5) H3) H)
theorem ad_slices_Clone_api_Value_api_Value (C : Ctx) (p_s : Sl) (K : Sl → Heap → Prop) (H : Heap) (h : sh_slices_Clone_api_Value_api_Value C p_s K H) : c_slices_Clone_api_Value_api_Value C p_s K H := by
 refine Spec.enter Tryd.func41 rfl Tryd.ntmps41 rfl (GC.sub [(0, slv p_s)] ⟨rfl, trivial⟩ (Zo (Za (GL.nil (GC.seq (Zo (Zm (Zv (OV.eqlSl (s := p_s) rfl rfl rfl) (GL.nil ?_)))))))))
 refine Zd (fun hc1 => ?_) fun hc1 => ?_
 replace h := h.1 hc1
 refine Zo (Za (GL.nil ?_))
 exact GC.ret (fun _ _ hf hs => post_tmp1 rfl rfl hf hs ⟨Sl.nil, rfl, h⟩)
 replace h := h.2 hc1
 refine GC.skip (Zo (GL.buildSlice (cs := []) h trivial rfl (vs := []) rfl ⟨24, fun _ => by kernel_rfl⟩ ?_))
 intro b2 H3 h
 refine Zm (GL.appendS (s := (Sl.of (some (b2, 0)) 0 0)) (s2 := p_s) (zc := T_api_Value.c T_api_Value.zero) (bytes := 56) h trivial rfl rfl rfl ⟨⟨_, _, _, rfl, rfl, rfl, rfl, rfl, rfl⟩⟩ rfl ?_)
 intro r4 H5 h
 refine Za (GL.nil ?_)
 exact GC.ret (fun _ _ hf hs => post_tmp1 rfl rfl hf hs ⟨r4, rfl, h⟩)
def sh_value_may_1 (C : Ctx) (p_v : T_api_Value) (K : Bool → Heap → Prop) (H : Heap) : Prop :=
 nw (T_api_Value.c p_v) (fun b1 H2 =>
 ldT H2 T_api_Value.c (b1, 0) fun x3 =>
 c_value_Check C x3 (fun r5 H6 =>
 K ((r5 : Int) != 0) H6) H2) H
theorem ad_value_may_1 (C : Ctx) (p_v : T_api_Value) (K : Bool → Heap → Prop) (H : Heap) (h : sh_value_may_1 C p_v K H) : c_value_may_1 C p_v K H := by
 refine Spec.enter Tryd.func43 rfl Tryd.ntmps43 rfl (GC.sub [(0, .agg (T_api_Value.c p_v).toArray)] ⟨rfl, trivial⟩ (Zo (GL.box (v := .agg (T_api_Value.c p_v).toArray) (cs := T_api_Value.c p_v) h trivial rfl rfl rfl ?_)))
 intro b1 H2 h
 refine Za (GL.nil (Zo ?_))
 obtain ⟨x3, hr4, h⟩ := h
 refine Zv (OV.loadT rfl rfl rfl hr4) (Zc h ok_value_Check ?_)
 rintro _ H6 ⟨r5, rfl, h⟩
 refine Zi (.bool ((r5 : Int) != 0)) (Za (GL.nil ?_))
 exact GC.ret (fun _ _ hf hs => post_tmp1 rfl rfl hf hs ⟨((r5 : Int) != 0), rfl, h⟩)
def sh_slices_CompareFunc_api_Value_api_Value_api_Value_api_Value (C : Ctx) (p_s1 : Sl) (p_s2 : Sl) (p_cmp : Value) (K : Int → Heap → Prop) (H : Heap) : Prop :=
 lp (α := Int) 0 H (fun x1 J2 H3 =>
 ift (decide ((x1 : Int) < (Sl.len p_s1 : Int)))
 (ixa p_s1 x1 fun p5 =>
 ldT H3 T_api_Value.c (p5.1, p5.2 + (x1 : Int).toNat * 4) fun x10 =>
 nw (T_api_Value.c T_api_Value.zero) (fun b12 H13 =>
 stT (b12, 0) (T_api_Value.c x10) (fun H14 =>
 ift (decide ((x1 : Int) ≥ (Sl.len p_s2 : Int)))
 (K 1 H14)
 (ixa p_s2 x1 fun p16 =>
 ldT H14 T_api_Value.c (p16.1, p16.2 + (x1 : Int).toNat * 4) fun x21 =>
 nw (T_api_Value.c T_api_Value.zero) (fun b23 H24 =>
 stT (b23, 0) (T_api_Value.c x21) (fun H25 =>
 ldT H25 T_api_Value.c (b12, 0) fun x26 =>
 ldT H25 T_api_Value.c (b23, 0) fun x28 =>
 callU Tryd.prog C p_cmp [.agg (T_api_Value.c x26).toArray, .agg (T_api_Value.c x28).toArray] H25 (fun v H31 => ∃ (r30 : Int), v = .int .i64 r30 ∧
 ift ((r30 : Int) != 0)
 (K r30 H31)
 (J2 (w .i64 (x1 + 1)) H31))) H24) H14)) H13) H3)
 (ift (decide (((Sl.len p_s1 : Int) : Int) < (Sl.len p_s2 : Int)))
 (K (-1) H3)
 (K 0 H3)))
theorem ad_slices_CompareFunc_api_Value_api_Value_api_Value_api_Value (C : Ctx) (p_s1 : Sl) (p_s2 : Sl) (p_cmp : Value) (K : Int → Heap → Prop) (H : Heap) (h : sh_slices_CompareFunc_api_Value_api_Value_api_Value_api_Value C p_s1 p_s2 p_cmp K H) : c_slices_CompareFunc_api_Value_api_Value_api_Value_api_Value C p_s1 p_s2 p_cmp K H := by
 refine Spec.enter Tryd.func44 rfl Tryd.ntmps44 rfl (GC.sub [(0, slv p_s1), (1, slv p_s2), (2, p_cmp)] ⟨rfl, rfl, rfl, trivial⟩ (Zo (Za (GL.nil (GC.seq (Zo (Zm (Zq (Zm (GL.nil (GC.block ?_)))))))))))
 refine GC.loop (α := Int) h (fun x1 => [(13, .int .i64 x1), (0, slv p_s1), (1, slv p_s2), (2, p_cmp), (11, slv p_s1), (12, .int .i64 (Sl.len p_s1 : Int))]) ⟨rfl, rfl, rfl, rfl, rfl, rfl, trivial⟩ ?_
 intro x1 H3 J2 h
 refine Zo (Zi (.bool (decide ((x1 : Int) < (Sl.len p_s1 : Int)))) (GL.nil (GC.seq ?_)))
 refine Zd (fun hc4 => ?_) fun hc4 => ?_
 replace h := h.1 hc4
 refine GC.skip (GC.seq (GC.block (Zo (Zm ?_))))
 obtain ⟨p5, ha6, hb7, hc8, hd9, h⟩ := h
 refine Zx ha6 hb7 hc8 hd9 ?_
 obtain ⟨x10, hr11, h⟩ := h
 refine Zv (OV.loadT rfl rfl rfl hr11) (GL.alloc (cs := T_api_Value.c T_api_Value.zero) h trivial rfl rfl rfl ?_)
 intro b12 H13 h
 refine Za (GL.storeT (p := (b12, 0)) (vs := T_api_Value.c x10) h trivial rfl rfl rfl rfl ?_)
 intro H14 h
 refine GL.nil (GC.seq (Zo (Zm (Zm (Zq (Zi (.bool (decide ((x1 : Int) ≥ (Sl.len p_s2 : Int)))) (GL.nil ?_)))))))
 refine Zd (fun hc15 => ?_) fun hc15 => ?_
 replace h := h.1 hc15
 refine Zo (Za (GL.nil ?_))
 exact GC.ret (fun _ _ hf hs => post_tmp1 rfl rfl hf hs ⟨1, rfl, h⟩)
 replace h := h.2 hc15
 refine GC.skip (Zo (Zm (Zm ?_)))
 obtain ⟨p16, ha17, hb18, hc19, hd20, h⟩ := h
 refine Zx ha17 hb18 hc19 hd20 ?_
 obtain ⟨x21, hr22, h⟩ := h
 refine Zv (OV.loadT rfl rfl rfl hr22) (GL.alloc (cs := T_api_Value.c T_api_Value.zero) h trivial rfl rfl rfl ?_)
 intro b23 H24 h
 refine GL.storeT (p := (b23, 0)) (vs := T_api_Value.c x21) h trivial rfl rfl rfl rfl ?_
 intro H25 h
 refine GL.nil (Zo (Zm ?_))
 obtain ⟨x26, hr27, h⟩ := h
 refine Zv (OV.loadT rfl rfl rfl hr27) ?_
 obtain ⟨x28, hr29, h⟩ := h
 refine Zv (OV.loadT rfl rfl rfl hr29) (GL.callU (xv := p_cmp) (vs := [.agg (T_api_Value.c x26).toArray, .agg (T_api_Value.c x28).toArray]) h trivial rfl rfl rfl ?_)
 rintro _ H31 ⟨r30, rfl, h⟩
 refine Za (GL.nil (Zo (Zm (Zi (.bool ((r30 : Int) != 0)) (GL.nil ?_)))))
 refine Zd (fun hc32 => ?_) fun hc32 => ?_
 replace h := h.1 hc32
 refine Zo (Zm (Za (GL.nil ?_)))
 exact GC.ret (fun _ _ hf hs => post_tmp1 rfl rfl hf hs ⟨r30, rfl, h⟩)
 replace h := h.2 hc32
 refine GC.skip_to (fun _ _ h => h) (GC.region (Zi (.int .i64 (w .i64 (x1 + 1))) (Zm ?_)))
 exact GL.jump (fun _ _ h => h) (w .i64 (x1 + 1)) h ⟨rfl, rfl, rfl, rfl, rfl, rfl, trivial⟩
 replace h := h.2 hc4
 refine GC.exit_to (fun _ _ h => h) (GC.seq (Zo (Zm (Zq (Zm (Zq (Zi (.bool (decide (((Sl.len p_s1 : Int) : Int) < (Sl.len p_s2 : Int)))) (GL.nil ?_))))))))
 refine Zd (fun hc33 => ?_) fun hc33 => ?_
 replace h := h.1 hc33
 refine Zo (Za (GL.nil ?_))
 exact GC.ret (fun _ _ hf hs => post_tmp1 rfl rfl hf hs ⟨(-1), rfl, h⟩)
 replace h := h.2 hc33
 refine GC.skip (Zo (Za (GL.nil ?_)))
 exact GC.ret (fun _ _ hf hs => post_tmp1 rfl rfl hf hs ⟨0, rfl, h⟩)
def sh_value_rows_1 (C : Ctx) (p_x : T_api_Value) (p_y : T_api_Value) (K : Int → Heap → Prop) (H : Heap) : Prop :=
 nw (T_api_Value.c p_x) (fun b1 H2 =>
 nw (T_api_Value.c p_y) (fun b3 H4 =>
 ldT H4 T_api_Value.c (b1, 0) fun x5 =>
 ldT H4 T_api_Value.c (b3, 0) fun x7 =>
 c_value_item_cmp C x5 x7 (fun r9 H10 =>
 K r9 H10) H4) H2) H
theorem ad_value_rows_1 (C : Ctx) (p_x : T_api_Value) (p_y : T_api_Value) (K : Int → Heap → Prop) (H : Heap) (h : sh_value_rows_1 C p_x p_y K H) : c_value_rows_1 C p_x p_y K H := by
 refine Spec.enter Tryd.func45 rfl Tryd.ntmps45 rfl (GC.sub [(0, .agg (T_api_Value.c p_x).toArray), (1, .agg (T_api_Value.c p_y).toArray)] ⟨rfl, rfl, trivial⟩ (Zo (GL.box (v := .agg (T_api_Value.c p_x).toArray) (cs := T_api_Value.c p_x) h trivial rfl rfl rfl ?_)))
 intro b1 H2 h
 refine GL.box (v := .agg (T_api_Value.c p_y).toArray) (cs := T_api_Value.c p_y) h trivial rfl rfl rfl ?_
 intro b3 H4 h
 refine Za (GL.nil (Zo ?_))
 obtain ⟨x5, hr6, h⟩ := h
 refine Zv (OV.loadT rfl rfl rfl hr6) ?_
 obtain ⟨x7, hr8, h⟩ := h
 refine Zv (OV.loadT rfl rfl rfl hr8) (Zc h ok_value_item_cmp ?_)
 rintro _ H10 ⟨r9, rfl, h⟩
 refine Za (GL.nil ?_)
 exact GC.ret (fun _ _ hf hs => post_tmp1 rfl rfl hf hs ⟨r9, rfl, h⟩)
def sh_value_item_cmp (C : Ctx) (p_v : T_api_Value) (p_w : T_api_Value) (K : Int → Heap → Prop) (H : Heap) : Prop :=
 nw (T_api_Value.c p_v) (fun b1 H2 =>
 nw (T_api_Value.c p_w) (fun b3 H4 =>
 ldI H4 .u8 ((b1, 0).1, (b1, 0).2 + 0) fun x5 =>
 ldI H4 .u8 ((b3, 0).1, (b3, 0).2 + 0) fun x7 =>
 c_cmp_Compare_uint8 C x5 x7 (fun r9 H10 =>
 ift ((r9 : Int) != 0)
 (K r9 H10)
 (ldI H10 .u8 ((b1, 0).1, (b1, 0).2 + 0) fun x12 =>
 ift ((x12 : Int) == 3)
 (ldS H10 ((b1, 0).1, (b1, 0).2 + 2) fun x15 =>
 ldS H10 ((b3, 0).1, (b3, 0).2 + 2) fun x17 =>
 c_value_bigs C x15 x17 (fun r19 H20 =>
 K r19 H20) H10)
 (ift ((x12 : Int) == 4)
 (ldS H10 ((b1, 0).1, (b1, 0).2 + 2) fun x22 =>
 ldS H10 ((b3, 0).1, (b3, 0).2 + 2) fun x24 =>
 c_cmp_Compare_string C x22 x24 (fun r26 H27 =>
 K r26 H27) H10)
 (dr H10 fun Hs28 =>
 ldI Hs28 .i64 ((b1, 0).1, (b1, 0).2 + 1) fun x30 =>
 ldI Hs28 .i64 ((b3, 0).1, (b3, 0).2 + 1) fun x32 =>
 ldS Hs28 ((b1, 0).1, (b1, 0).2 + 2) fun x34 =>
 ldS Hs28 ((b3, 0).1, (b3, 0).2 + 2) fun x36 =>
 ldL Hs28 ((b1, 0).1, (b1, 0).2 + 3) fun x38 =>
 ldL Hs28 ((b3, 0).1, (b3, 0).2 + 3) fun x40 =>
 c_cmp_Compare_int64 C x30 x32 (fun r43 H44 =>
 Heap.le Hs28 H44 ∧
 c_cmp_Compare_string C x34 x36 (fun r46 H47 =>
 Heap.le Hs28 H47 ∧
 c_value_rows C x38 x40 (fun r49 H50 =>
 Heap.le Hs28 H50 ∧
 nw ([.int .i64 r43, .int .i64 r46, .int .i64 r49]) (fun b52 H53 =>
 Heap.le Hs28 H53 ∧
 c_cmp_Or_int C (Sl.of (some (b52, 0)) 3 3) (fun r55 H56 =>
 Heap.le Hs28 H56 ∧
 K r55 H56) H53) H50) H47) H44) H10)))) H4) H2) H
theorem ad_value_item_cmp (C : Ctx) (p_v : T_api_Value) (p_w : T_api_Value) (K : Int → Heap → Prop) (H : Heap) (h : sh_value_item_cmp C p_v p_w K H) : c_value_item_cmp C p_v p_w K H := by
 refine Spec.enter Tryd.func46 rfl Tryd.ntmps46 rfl (GC.sub [(0, .agg (T_api_Value.c p_v).toArray), (1, .agg (T_api_Value.c p_w).toArray)] ⟨rfl, rfl, trivial⟩ (Zo (GL.box (v := .agg (T_api_Value.c p_v).toArray) (cs := T_api_Value.c p_v) h trivial rfl rfl rfl ?_)))
 intro b1 H2 h
 refine GL.box (v := .agg (T_api_Value.c p_w).toArray) (cs := T_api_Value.c p_w) h trivial rfl rfl rfl ?_
 intro b3 H4 h
 refine Za (GL.nil (GC.seq (Zo (Zf ?_))))
 obtain ⟨x5, hr6, h⟩ := h
 refine Zl hr6 (Zf ?_)
 obtain ⟨x7, hr8, h⟩ := h
 refine Zl hr8 (Zc h ok_cmp_Compare_uint8 ?_)
 rintro _ H10 ⟨r9, rfl, h⟩
 refine Za (GL.nil (Zo (Zm (Zi (.bool ((r9 : Int) != 0)) (GL.nil ?_)))))
 refine Zd (fun hc11 => ?_) fun hc11 => ?_
 replace h := h.1 hc11
 refine Zo (Zm (Za (GL.nil ?_)))
 exact GC.ret (fun _ _ hf hs => post_tmp1 rfl rfl hf hs ⟨r9, rfl, h⟩)
 replace h := h.2 hc11
 refine GC.skip (GC.seq (Zo (Zf ?_)))
 obtain ⟨x12, hr13, h⟩ := h
 refine Zl hr13 (GL.nil (GC.block (Zo (Zi (.bool ((x12 : Int) == 3)) (Za (GL.nil ?_))))))
 refine Zd (fun hc14 => ?_) fun hc14 => ?_
 replace h := h.1 hc14
 refine Zo (Zf ?_)
 obtain ⟨x15, hr16, h⟩ := h
 refine Zl hr16 (Zf ?_)
 obtain ⟨x17, hr18, h⟩ := h
 refine Zl hr18 (Zc h ok_value_bigs ?_)
 rintro _ H20 ⟨r19, rfl, h⟩
 refine Za (GL.nil ?_)
 exact GC.ret (fun _ _ hf hs => post_tmp1 rfl rfl hf hs ⟨r19, rfl, h⟩)
 replace h := h.2 hc14
 refine Zo (Zi (.bool ((x12 : Int) == 4)) (Za (GL.nil ?_)))
 refine Zd (fun hc21 => ?_) fun hc21 => ?_
 replace h := h.1 hc21
 refine Zo (Zf ?_)
 obtain ⟨x22, hr23, h⟩ := h
 refine Zl hr23 (Zf ?_)
 obtain ⟨x24, hr25, h⟩ := h
 refine Zl hr25 (Zc h ok_cmp_Compare_string ?_)
 rintro _ H27 ⟨r26, rfl, h⟩
 refine Za (GL.nil ?_)
 exact GC.ret (fun _ _ hf hs => post_tmp1 rfl rfl hf hs ⟨r26, rfl, h⟩)
 replace h := h.2 hc21
 refine GC.skip_to (fun _ _ h => h) (GC.seq ?_)
 obtain ⟨Hs28, hle29, h⟩ := h
 refine GC.any (Hs := Hs28) (by kernel_rfl) hle29 (Zp 0 rfl (OV.fieldAddr rfl rfl) ?_)
 obtain ⟨x30, hr31, h⟩ := h
 refine Zp 1 rfl (OV.load rfl rfl hr31) (Zp 2 rfl (OV.fieldAddr rfl rfl) ?_)
 obtain ⟨x32, hr33, h⟩ := h
 refine Zp 3 rfl (OV.load rfl rfl hr33) (Zp 5 rfl (OV.fieldAddr rfl rfl) ?_)
 obtain ⟨x34, hr35, h⟩ := h
 refine Zp 6 rfl (OV.load rfl rfl hr35) (Zp 7 rfl (OV.fieldAddr rfl rfl) ?_)
 obtain ⟨x36, hr37, h⟩ := h
 refine Zp 8 rfl (OV.load rfl rfl hr37) (Zp 10 rfl (OV.fieldAddr rfl rfl) ?_)
 obtain ⟨x38, hr39, h⟩ := h
 refine Zp 11 rfl (OV.load rfl rfl hr39) (Zp 12 rfl (OV.fieldAddr rfl rfl) ?_)
 obtain ⟨x40, hr41, h⟩ := h
 refine Zp 13 rfl (OV.load rfl rfl hr41) (GA.eff 4 rfl (by kernel_rfl) (Zc h ok_cmp_Compare_int64 ?_))
 rintro _ H44 ⟨r43, rfl, h⟩
 obtain ⟨hle42, h⟩ := h
 refine GA.back hle42 (GA.eff 9 rfl (by kernel_rfl) (Zc h ok_cmp_Compare_string ?_))
 rintro _ H47 ⟨r46, rfl, h⟩
 obtain ⟨hle45, h⟩ := h
 refine GA.back hle45 (GA.eff 14 rfl (by kernel_rfl) (Zc h ok_value_rows ?_))
 rintro _ H50 ⟨r49, rfl, h⟩
 obtain ⟨hle48, h⟩ := h
 refine GA.back hle48 (GA.eff 15 rfl (by kernel_rfl) (GL.buildSlice (cs := [.int .i64 r43, .int .i64 r46, .int .i64 r49]) h trivial rfl (vs := [(0, .int .i64 r43), (1, .int .i64 r46), (2, .int .i64 r49)]) rfl ⟨3, fun _ => by kernel_rfl⟩ ?_))
 intro b52 H53 h
 obtain ⟨hle51, h⟩ := h
 refine GA.back hle51 (GA.eff 16 rfl (by kernel_rfl) (Zc h ok_cmp_Or_int ?_))
 rintro _ H56 ⟨r55, rfl, h⟩
 obtain ⟨hle54, h⟩ := h
 refine GA.back hle54 (Zp 17 rfl (OV.assign rfl) (GA.done (by kernel_rfl) (GL.nil ?_)))
 exact GC.ret (fun _ _ hf hs => post_tmp1 rfl rfl hf hs ⟨r55, rfl, h⟩)
def sh_value_number (C : Ctx) (p_s : Str) (K : Int → Bool → Heap → Prop) (H : Heap) : Prop :=
 c_strings_TrimPrefix C p_s [45] (fun r1 H2 =>
 jn (α := Bool) (fun b3 H9 =>
 jn (α := Bool) (fun b10 H18 =>
 ift b10
 (K 0 false H18)
 (K (List.length r1 : Int) true H18))
 (fun J11 => ift b3
 (J11 true H9)
 (ixs r1 0 fun c14 =>
 J11 ((((c14.toNat : Int) : Int) == 48) && (!(p_s == ([48] : Str)))) H9)))
 (fun J4 => ift (r1 == ([] : Str))
 (J4 true H2)
 (c_strings_Trim C r1 [48, 49, 50, 51, 52, 53, 54, 55, 56, 57] (fun r7 H8 =>
 J4 (!(r7 == ([] : Str))) H8) H2))) H
theorem ad_value_number (C : Ctx) (p_s : Str) (K : Int → Bool → Heap → Prop) (H : Heap) (h : sh_value_number C p_s K H) : c_value_number C p_s K H := by
 refine Spec.enter Tryd.func47 rfl Tryd.ntmps47 rfl (GC.sub [(0, sv p_s)] ⟨rfl, trivial⟩ (Zo (Za (Za (GL.nil (Zo (Zm (Zc h ok_strings_TrimPrefix ?_))))))))
 rintro _ H2 ⟨r1, rfl, h⟩
 refine Za (GL.nil (GC.seq (Zo (Zm (Zv (OV.sbin (a := r1) (b := ([] : Str)) (v := .bool (r1 == ([] : Str))) rfl rfl rfl) (Zm ?_))))))
 obtain ⟨J4, h, hR5⟩ := h
 refine GL.cut (α := Bool) 4 J4 (fun b3 => [(13, .bool b3), (0, sv p_s), (4, sv r1)]) ?_ ?_
 rcases Zb (r1 == ([] : Str)) with hc6 | hc6
 replace h := h.1 hc6
 refine Zk hc6 (Zk hc6 (Zk hc6 (Zt hc6 ?_)))
 exact GL.jump (fun _ _ h => h) true h ⟨rfl, rfl, rfl, trivial⟩
 replace h := h.2 hc6
 refine Zu hc6 (OV.move rfl) (GL.call h ⟨_, _, rfl, rfl, hc6⟩ rfl ok_strings_Trim (vs := [sv r1, sv [48, 49, 50, 51, 52, 53, 54, 55, 56, 57]]) rfl ?_)
 rintro _ H8 ⟨r7, rfl, h⟩
 refine Zu hc6 (OV.sbin (a := r7) (b := ([] : Str)) (v := .bool (!(r7 == ([] : Str)))) rfl rfl rfl) (Zn hc6 ?_)
 exact GL.jump (fun _ _ h => h) (!(r7 == ([] : Str))) h ⟨rfl, rfl, rfl, trivial⟩
 intro b3 H9 h
 replace h := hR5 b3 H9 h
 refine Zm ?_
 obtain ⟨J11, h, hR12⟩ := h
 refine GL.cut (α := Bool) 8 J11 (fun b10 => [(22, .bool b10), (4, sv r1)]) ?_ ?_
 rcases Bool.eq_false_or_eq_true b3 with hc13 | hc13
 replace h := h.1 hc13
 refine Zk hc13 (Zk hc13 (Zk hc13 (Zk hc13 (GL.skip ⟨_, rfl, .inr rfl⟩ rfl (GL.skip ⟨_, rfl, .inr rfl⟩ rfl (Zk hc13 (Zt hc13 ?_)))))))
 exact GL.jump (fun _ _ h => h) true h ⟨rfl, rfl, trivial⟩
 replace h := h.2 hc13
 refine Zu hc13 (OV.move rfl) ?_
 obtain ⟨c14, ha15, hb16, h⟩ := h
 refine Zu hc13 (OV.indexStr rfl rfl rfl ha15 hb16) (Zu hc13 (OV.ibin (v := .bool (((c14.toNat : Int) : Int) == 48)) rfl rfl rfl) (Zu hc13 (OV.move rfl) ?_))
 refine GL.cut0 3 [(21, .bool ((((c14.toNat : Int) : Int) == 48) && (!(p_s == ([48] : Str))))), (4, sv r1), (14, .bool b3)] ?_ ?_
 rcases Zb (((c14.toNat : Int) : Int) == 48) with hc17 | hc17
 refine Zu hc17 (OV.move rfl) (Zu hc17 (OV.sbin (a := p_s) (b := ([48] : Str)) (v := .bool (!(p_s == ([48] : Str)))) rfl rfl rfl) (Zu hc13 (OV.pickT rfl hc17 rfl) ?_))
 exact GL.jump0 (fun _ _ h => h) () rfl ⟨(by rw [hc17]; rfl), rfl, rfl, trivial⟩
 refine Zk hc17 (Zk hc17 (Zu hc13 (OV.pickF rfl hc17 rfl) ?_))
 exact GL.jump0 (fun _ _ h => h) () rfl ⟨(by rw [hc17]; rfl), rfl, rfl, trivial⟩
 refine Zn hc13 ?_
 exact GL.jump (fun _ _ h => h) ((((c14.toNat : Int) : Int) == 48) && (!(p_s == ([48] : Str)))) h ⟨rfl, rfl, trivial⟩
 intro b10 H18 h
 replace h := hR12 b10 H18 h
 refine GL.nil ?_
 refine Zd (fun hc19 => ?_) fun hc19 => ?_
 replace h := h.1 hc19
 refine Zo (Za (Za (GL.nil ?_)))
 exact GC.ret (fun _ _ hf hs => post_tmp2 rfl rfl rfl hf hs ⟨0, false, rfl, h⟩)
 replace h := h.2 hc19
 refine GC.skip (Zo (Zm (Zr (Za (Za (GL.nil ?_))))))
 exact GC.ret (fun _ _ hf hs => post_tmp2 rfl rfl rfl hf hs ⟨(List.length r1 : Int), true, rfl, h⟩)
def sh_strings_Cut (C : Ctx) (p_s : Str) (p_sep : Str) (K : Str → Str → Bool → Heap → Prop) (H : Heap) : Prop :=
 c_internal_stringslite_Cut C p_s p_sep (fun r1 r2 r3 H4 =>
 K r1 r2 r3 H4) H
theorem ad_strings_Cut (C : Ctx) (p_s : Str) (p_sep : Str) (K : Str → Str → Bool → Heap → Prop) (H : Heap) (h : sh_strings_Cut C p_s p_sep K H) : c_strings_Cut C p_s p_sep K H := by
 refine Spec.enter Tryd.func48 rfl Tryd.ntmps48 rfl (GC.sub [(0, sv p_s), (1, sv p_sep)] ⟨rfl, rfl, trivial⟩ (Zo (Za (Za (Za (GL.nil (Zo (Zm (Zm (Zc h ok_internal_stringslite_Cut ?_))))))))))
 rintro _ H4 ⟨r1, r2, r3, rfl, h⟩
 refine Zv (OV.extract (v := sv r1) rfl rfl) (Zv (OV.extract (v := sv r2) rfl rfl) (Zv (OV.extract (v := .bool r3) rfl rfl) (Za (Za (Za (GL.nil ?_))))))
 exact GC.ret (fun _ _ hf hs => post_tmp3 rfl rfl rfl rfl hf hs ⟨r1, r2, r3, rfl, h⟩)
def sh_value_name (C : Ctx) (p_s : Str) (K : Bool → Heap → Prop) (H : Heap) : Prop :=
 jn (α := Bool) (fun b2 H9 =>
 jn (α := Bool) (fun b10 H17 =>
 ift b10
 (K false H17)
 (lp (α := Int) 0 H17 (fun x19 J20 H21 =>
 ift (decide ((x19 : Int) < (List.length p_s : Int)))
 (ixs p_s x19 fun c23 =>
 ift (!(((((decide (((c23.toNat : Int) : Int) ≥ 97)) && (decide (((c23.toNat : Int) : Int) ≤ 122))) || ((decide (((c23.toNat : Int) : Int) ≥ 65)) && (decide (((c23.toNat : Int) : Int) ≤ 90)))) || ((decide (((c23.toNat : Int) : Int) ≥ 48)) && (decide (((c23.toNat : Int) : Int) ≤ 57)))) || (((c23.toNat : Int) : Int) == 95)))
 (K false H21)
 (J20 (w .i64 (x19 + 1)) H21))
 (K true H21))))
 (fun J11 => ift b2
 (J11 true H9)
 (ixs p_s 0 fun c14 =>
 J11 (decide (((c14.toNat : Int) : Int) > 122)) H9)))
 (fun J3 => ift ((p_s == ([] : Str)) || (decide (((List.length p_s : Int) : Int) > 32)))
 (J3 true H)
 (ixs p_s 0 fun c6 =>
 J3 (decide (((c6.toNat : Int) : Int) < 97)) H))
theorem ad_value_name (C : Ctx) (p_s : Str) (K : Bool → Heap → Prop) (H : Heap) (h : sh_value_name C p_s K H) : c_value_name C p_s K H := by
 refine Spec.enter Tryd.func49 rfl Tryd.ntmps49 rfl (GC.sub [(0, sv p_s)] ⟨rfl, trivial⟩ (Zo (Za (GL.nil (GC.seq (Zo (Zm (Zv (OV.sbin (a := p_s) (b := ([] : Str)) (v := .bool (p_s == ([] : Str))) rfl rfl rfl) (Zm ?_)))))))))
 refine GL.cut0 4 [(11, .bool ((p_s == ([] : Str)) || (decide (((List.length p_s : Int) : Int) > 32)))), (0, sv p_s)] ?_ ?_
 rcases Zb (p_s == ([] : Str)) with hc1 | hc1
 refine Zk hc1 (Zk hc1 (Zk hc1 (Zt hc1 ?_)))
 exact GL.jump0 (fun _ _ h => h) () rfl ⟨(by rw [hc1]; rfl), rfl, trivial⟩
 refine Zu hc1 (OV.move rfl) (Zu hc1 (OV.lenStr rfl rfl) (Zu hc1 (OV.ibin (v := .bool (decide (((List.length p_s : Int) : Int) > 32))) rfl rfl rfl) (Zn hc1 ?_)))
 exact GL.jump0 (fun _ _ h => h) () rfl ⟨(by rw [hc1]; rfl), rfl, trivial⟩
 refine Zm ?_
 obtain ⟨J3, h, hR4⟩ := h
 refine GL.cut (α := Bool) 4 J3 (fun b2 => [(16, .bool b2), (0, sv p_s)]) ?_ ?_
 rcases Zb ((p_s == ([] : Str)) || (decide (((List.length p_s : Int) : Int) > 32))) with hc5 | hc5
 replace h := h.1 hc5
 refine Zk hc5 (Zk hc5 (Zk hc5 (Zt hc5 ?_)))
 exact GL.jump (fun _ _ h => h) true h ⟨rfl, rfl, trivial⟩
 replace h := h.2 hc5
 refine Zu hc5 (OV.move rfl) ?_
 obtain ⟨c6, ha7, hb8, h⟩ := h
 refine Zu hc5 (OV.indexStr rfl rfl rfl ha7 hb8) (Zu hc5 (OV.ibin (v := .bool (decide (((c6.toNat : Int) : Int) < 97))) rfl rfl rfl) (Zn hc5 ?_))
 exact GL.jump (fun _ _ h => h) (decide (((c6.toNat : Int) : Int) < 97)) h ⟨rfl, rfl, trivial⟩
 intro b2 H9 h
 replace h := hR4 b2 H9 h
 refine Zm ?_
 obtain ⟨J11, h, hR12⟩ := h
 refine GL.cut (α := Bool) 4 J11 (fun b10 => [(21, .bool b10), (0, sv p_s)]) ?_ ?_
 rcases Bool.eq_false_or_eq_true b2 with hc13 | hc13
 replace h := h.1 hc13
 refine Zk hc13 (Zk hc13 (Zk hc13 (Zt hc13 ?_)))
 exact GL.jump (fun _ _ h => h) true h ⟨rfl, rfl, trivial⟩
 replace h := h.2 hc13
 refine Zu hc13 (OV.move rfl) ?_
 obtain ⟨c14, ha15, hb16, h⟩ := h
 refine Zu hc13 (OV.indexStr rfl rfl rfl ha15 hb16) (Zu hc13 (OV.ibin (v := .bool (decide (((c14.toNat : Int) : Int) > 122))) rfl rfl rfl) (Zn hc13 ?_))
 exact GL.jump (fun _ _ h => h) (decide (((c14.toNat : Int) : Int) > 122)) h ⟨rfl, rfl, trivial⟩
 intro b10 H17 h
 replace h := hR12 b10 H17 h
 refine GL.nil ?_
 refine Zd (fun hc18 => ?_) fun hc18 => ?_
 replace h := h.1 hc18
 refine Zo (Za (GL.nil ?_))
 exact GC.ret (fun _ _ hf hs => post_tmp1 rfl rfl hf hs ⟨false, rfl, h⟩)
 replace h := h.2 hc18
 refine GC.skip (GC.seq (Zo (Zm (Zr (Zm (GL.nil (GC.block (GC.loop (α := Int) h (fun x19 => [(24, .int .i64 x19), (0, sv p_s), (23, .int .i64 (List.length p_s : Int))]) ⟨rfl, rfl, rfl, trivial⟩ ?_))))))))
 intro x19 H21 J20 h
 refine Zo (Zi (.bool (decide ((x19 : Int) < (List.length p_s : Int)))) (GL.nil (GC.seq ?_)))
 refine Zd (fun hc22 => ?_) fun hc22 => ?_
 replace h := h.1 hc22
 refine GC.skip (GC.seq (GC.block (Zo (Zm (Za (GL.nil (Zo (Zm (Zm ?_)))))))))
 obtain ⟨c23, ha24, hb25, h⟩ := h
 refine Zs ha24 hb25 (Za (GL.nil (Zo (Zm (Zi (.bool (decide (((c23.toNat : Int) : Int) ≥ 97))) (Zm ?_))))))
 refine GL.cut0 3 [(35, .bool ((decide (((c23.toNat : Int) : Int) ≥ 97)) && (decide (((c23.toNat : Int) : Int) ≤ 122)))), (0, sv p_s), (4, .int .u8 (c23.toNat : Int)), (23, .int .i64 (List.length p_s : Int)), (24, .int .i64 x19)] ?_ ?_
 rcases Zb (decide (((c23.toNat : Int) : Int) ≥ 97)) with hc26 | hc26
 refine Zu hc26 (OV.move rfl) (Zu hc26 (OV.ibin (v := .bool (decide (((c23.toNat : Int) : Int) ≤ 122))) rfl rfl rfl) (Zt hc26 ?_))
 exact GL.jump0 (fun _ _ h => h) () rfl ⟨(by rw [hc26]; rfl), rfl, rfl, rfl, rfl, trivial⟩
 refine Zk hc26 (Zk hc26 (Zn hc26 ?_))
 exact GL.jump0 (fun _ _ h => h) () rfl ⟨(by rw [hc26]; rfl), rfl, rfl, rfl, rfl, trivial⟩
 refine Zm ?_
 refine GL.cut0 7 [(43, .bool (((decide (((c23.toNat : Int) : Int) ≥ 97)) && (decide (((c23.toNat : Int) : Int) ≤ 122))) || ((decide (((c23.toNat : Int) : Int) ≥ 65)) && (decide (((c23.toNat : Int) : Int) ≤ 90))))), (0, sv p_s), (4, .int .u8 (c23.toNat : Int)), (23, .int .i64 (List.length p_s : Int)), (24, .int .i64 x19)] ?_ ?_
 rcases Zb ((decide (((c23.toNat : Int) : Int) ≥ 97)) && (decide (((c23.toNat : Int) : Int) ≤ 122))) with hc27 | hc27
 refine Zk hc27 (Zk hc27 (Zk hc27 (GL.skip ⟨_, rfl, .inr rfl⟩ rfl (GL.skip ⟨_, rfl, .inr rfl⟩ rfl (Zk hc27 (Zt hc27 ?_))))))
 exact GL.jump0 (fun _ _ h => h) () rfl ⟨(by rw [hc27]; rfl), rfl, rfl, rfl, rfl, trivial⟩
 refine Zu hc27 (OV.move rfl) (Zu hc27 (OV.ibin (v := .bool (decide (((c23.toNat : Int) : Int) ≥ 65))) rfl rfl rfl) (Zu hc27 (OV.move rfl) ?_))
 refine GL.cut0 3 [(42, .bool ((decide (((c23.toNat : Int) : Int) ≥ 65)) && (decide (((c23.toNat : Int) : Int) ≤ 90)))), (0, sv p_s), (4, .int .u8 (c23.toNat : Int)), (23, .int .i64 (List.length p_s : Int)), (24, .int .i64 x19), (36, .bool ((decide (((c23.toNat : Int) : Int) ≥ 97)) && (decide (((c23.toNat : Int) : Int) ≤ 122))))] ?_ ?_
 rcases Zb (decide (((c23.toNat : Int) : Int) ≥ 65)) with hc28 | hc28
 refine Zu hc28 (OV.move rfl) (Zu hc28 (OV.ibin (v := .bool (decide (((c23.toNat : Int) : Int) ≤ 90))) rfl rfl rfl) (Zu hc27 (OV.pickT rfl hc28 rfl) ?_))
 exact GL.jump0 (fun _ _ h => h) () rfl ⟨(by rw [hc28]; rfl), rfl, rfl, rfl, rfl, rfl, trivial⟩
 refine Zk hc28 (Zk hc28 (Zu hc27 (OV.pickF rfl hc28 rfl) ?_))
 exact GL.jump0 (fun _ _ h => h) () rfl ⟨(by rw [hc28]; rfl), rfl, rfl, rfl, rfl, rfl, trivial⟩
 refine Zn hc27 ?_
 exact GL.jump0 (fun _ _ h => h) () rfl ⟨(by rw [hc27]; rfl), rfl, rfl, rfl, rfl, trivial⟩
 refine Zm ?_
 refine GL.cut0 7 [(51, .bool ((((decide (((c23.toNat : Int) : Int) ≥ 97)) && (decide (((c23.toNat : Int) : Int) ≤ 122))) || ((decide (((c23.toNat : Int) : Int) ≥ 65)) && (decide (((c23.toNat : Int) : Int) ≤ 90)))) || ((decide (((c23.toNat : Int) : Int) ≥ 48)) && (decide (((c23.toNat : Int) : Int) ≤ 57))))), (0, sv p_s), (4, .int .u8 (c23.toNat : Int)), (23, .int .i64 (List.length p_s : Int)), (24, .int .i64 x19)] ?_ ?_
 rcases Zb (((decide (((c23.toNat : Int) : Int) ≥ 97)) && (decide (((c23.toNat : Int) : Int) ≤ 122))) || ((decide (((c23.toNat : Int) : Int) ≥ 65)) && (decide (((c23.toNat : Int) : Int) ≤ 90)))) with hc29 | hc29
 refine Zk hc29 (Zk hc29 (Zk hc29 (GL.skip ⟨_, rfl, .inr rfl⟩ rfl (GL.skip ⟨_, rfl, .inr rfl⟩ rfl (Zk hc29 (Zt hc29 ?_))))))
 exact GL.jump0 (fun _ _ h => h) () rfl ⟨(by rw [hc29]; rfl), rfl, rfl, rfl, rfl, trivial⟩
 refine Zu hc29 (OV.move rfl) (Zu hc29 (OV.ibin (v := .bool (decide (((c23.toNat : Int) : Int) ≥ 48))) rfl rfl rfl) (Zu hc29 (OV.move rfl) ?_))
 refine GL.cut0 3 [(50, .bool ((decide (((c23.toNat : Int) : Int) ≥ 48)) && (decide (((c23.toNat : Int) : Int) ≤ 57)))), (0, sv p_s), (4, .int .u8 (c23.toNat : Int)), (23, .int .i64 (List.length p_s : Int)), (24, .int .i64 x19), (44, .bool (((decide (((c23.toNat : Int) : Int) ≥ 97)) && (decide (((c23.toNat : Int) : Int) ≤ 122))) || ((decide (((c23.toNat : Int) : Int) ≥ 65)) && (decide (((c23.toNat : Int) : Int) ≤ 90)))))] ?_ ?_
 rcases Zb (decide (((c23.toNat : Int) : Int) ≥ 48)) with hc30 | hc30
 refine Zu hc30 (OV.move rfl) (Zu hc30 (OV.ibin (v := .bool (decide (((c23.toNat : Int) : Int) ≤ 57))) rfl rfl rfl) (Zu hc29 (OV.pickT rfl hc30 rfl) ?_))
 exact GL.jump0 (fun _ _ h => h) () rfl ⟨(by rw [hc30]; rfl), rfl, rfl, rfl, rfl, rfl, trivial⟩
 refine Zk hc30 (Zk hc30 (Zu hc29 (OV.pickF rfl hc30 rfl) ?_))
 exact GL.jump0 (fun _ _ h => h) () rfl ⟨(by rw [hc30]; rfl), rfl, rfl, rfl, rfl, rfl, trivial⟩
 refine Zn hc29 ?_
 exact GL.jump0 (fun _ _ h => h) () rfl ⟨(by rw [hc29]; rfl), rfl, rfl, rfl, rfl, trivial⟩
 refine Zm ?_
 refine GL.cut0 3 [(55, .bool (((((decide (((c23.toNat : Int) : Int) ≥ 97)) && (decide (((c23.toNat : Int) : Int) ≤ 122))) || ((decide (((c23.toNat : Int) : Int) ≥ 65)) && (decide (((c23.toNat : Int) : Int) ≤ 90)))) || ((decide (((c23.toNat : Int) : Int) ≥ 48)) && (decide (((c23.toNat : Int) : Int) ≤ 57)))) || (((c23.toNat : Int) : Int) == 95))), (0, sv p_s), (23, .int .i64 (List.length p_s : Int)), (24, .int .i64 x19)] ?_ ?_
 rcases Zb ((((decide (((c23.toNat : Int) : Int) ≥ 97)) && (decide (((c23.toNat : Int) : Int) ≤ 122))) || ((decide (((c23.toNat : Int) : Int) ≥ 65)) && (decide (((c23.toNat : Int) : Int) ≤ 90)))) || ((decide (((c23.toNat : Int) : Int) ≥ 48)) && (decide (((c23.toNat : Int) : Int) ≤ 57)))) with hc31 | hc31
 refine Zk hc31 (Zk hc31 (Zt hc31 ?_))
 exact GL.jump0 (fun _ _ h => h) () rfl ⟨(by rw [hc31]; rfl), rfl, rfl, rfl, trivial⟩
 refine Zu hc31 (OV.move rfl) (Zu hc31 (OV.ibin (v := .bool (((c23.toNat : Int) : Int) == 95)) rfl rfl rfl) (Zn hc31 ?_))
 exact GL.jump0 (fun _ _ h => h) () rfl ⟨(by rw [hc31]; rfl), rfl, rfl, rfl, trivial⟩
 refine Zv (OV.not rfl) (GL.nil ?_)
 refine Zd (fun hc32 => ?_) fun hc32 => ?_
 replace h := h.1 hc32
 refine Zo (Za (GL.nil ?_))
 exact GC.ret (fun _ _ hf hs => post_tmp1 rfl rfl hf hs ⟨false, rfl, h⟩)
 replace h := h.2 hc32
 refine GC.skip_to (fun _ _ h => h) (GC.region (Zi (.int .i64 (w .i64 (x19 + 1))) (Zm ?_)))
 exact GL.jump (fun _ _ h => h) (w .i64 (x19 + 1)) h ⟨rfl, rfl, rfl, trivial⟩
 replace h := h.2 hc22
 refine GC.exit_to (fun _ _ h => h) (Zo (Za (GL.nil ?_)))
 exact GC.ret (fun _ _ hf hs => post_tmp1 rfl rfl hf hs ⟨true, rfl, h⟩)
def sh_ref02_Same (C : Ctx) (p_a : T_api_Value) (p_b : T_api_Value) (K : Bool → Heap → Prop) (H : Heap) : Prop :=
 nw (T_api_Value.c p_a) (fun b1 H2 =>
 nw (T_api_Value.c p_b) (fun b3 H4 =>
 ldI H4 .u8 ((b1, 0).1, (b1, 0).2 + 0) fun x5 =>
 ldI H4 .u8 ((b3, 0).1, (b3, 0).2 + 0) fun x7 =>
 jn (α := Bool) (fun b9 H17 =>
 jn (α := Bool) (fun b18 H26 =>
 jn (α := Bool) (fun b27 H37 =>
 K b27 H37)
 (fun J28 => ift b18
 (ldL H26 ((b1, 0).1, (b1, 0).2 + 3) fun x31 =>
 ldL H26 ((b3, 0).1, (b3, 0).2 + 3) fun x33 =>
 c_ref02_SameRow C x31 x33 (fun r35 H36 =>
 J28 r35 H36) H26)
 (J28 false H26)))
 (fun J19 => ift b9
 (ldS H17 ((b1, 0).1, (b1, 0).2 + 2) fun x22 =>
 ldS H17 ((b3, 0).1, (b3, 0).2 + 2) fun x24 =>
 J19 (x22 == x24) H17)
 (J19 false H17)))
 (fun J10 => ift ((x5 : Int) == x7)
 (ldI H4 .i64 ((b1, 0).1, (b1, 0).2 + 1) fun x13 =>
 ldI H4 .i64 ((b3, 0).1, (b3, 0).2 + 1) fun x15 =>
 J10 ((x13 : Int) == x15) H4)
 (J10 false H4))) H2) H
theorem ad_ref02_Same (C : Ctx) (p_a : T_api_Value) (p_b : T_api_Value) (K : Bool → Heap → Prop) (H : Heap) (h : sh_ref02_Same C p_a p_b K H) : c_ref02_Same C p_a p_b K H := by
 refine Spec.enter Tryd.func50 rfl Tryd.ntmps50 rfl (GC.sub [(0, .agg (T_api_Value.c p_a).toArray), (1, .agg (T_api_Value.c p_b).toArray)] ⟨rfl, rfl, trivial⟩ (Zo (GL.box (v := .agg (T_api_Value.c p_a).toArray) (cs := T_api_Value.c p_a) h trivial rfl rfl rfl ?_)))
 intro b1 H2 h
 refine GL.box (v := .agg (T_api_Value.c p_b).toArray) (cs := T_api_Value.c p_b) h trivial rfl rfl rfl ?_
 intro b3 H4 h
 refine Za (GL.nil (Zo (Zf ?_)))
 obtain ⟨x5, hr6, h⟩ := h
 refine Zl hr6 (Zf ?_)
 obtain ⟨x7, hr8, h⟩ := h
 refine Zl hr8 (Zi (.bool ((x5 : Int) == x7)) (Zm ?_))
 obtain ⟨J10, h, hR11⟩ := h
 refine GL.cut (α := Bool) 6 J10 (fun b9 => [(16, .bool b9), (2, pv (some (b1, 0))), (3, pv (some (b3, 0)))]) ?_ ?_
 rcases Zb ((x5 : Int) == x7) with hc12 | hc12
 replace h := h.1 hc12
 refine Zu hc12 (OV.fieldAddr rfl rfl) ?_
 obtain ⟨x13, hr14, h⟩ := h
 refine Zu hc12 (OV.load rfl rfl hr14) (Zu hc12 (OV.fieldAddr rfl rfl) ?_)
 obtain ⟨x15, hr16, h⟩ := h
 refine Zu hc12 (OV.load rfl rfl hr16) (Zu hc12 (OV.ibin (v := .bool ((x13 : Int) == x15)) rfl rfl rfl) (Zt hc12 ?_))
 exact GL.jump (fun _ _ h => h) ((x13 : Int) == x15) h ⟨rfl, rfl, rfl, trivial⟩
 replace h := h.2 hc12
 refine Zk hc12 (Zk hc12 (Zk hc12 (Zk hc12 (Zk hc12 (Zn hc12 ?_)))))
 exact GL.jump (fun _ _ h => h) false h ⟨rfl, rfl, rfl, trivial⟩
 intro b9 H17 h
 replace h := hR11 b9 H17 h
 refine Zm ?_
 obtain ⟨J19, h, hR20⟩ := h
 refine GL.cut (α := Bool) 6 J19 (fun b18 => [(23, .bool b18), (2, pv (some (b1, 0))), (3, pv (some (b3, 0)))]) ?_ ?_
 rcases Bool.eq_false_or_eq_true b9 with hc21 | hc21
 replace h := h.1 hc21
 refine Zu hc21 (OV.fieldAddr rfl rfl) ?_
 obtain ⟨x22, hr23, h⟩ := h
 refine Zu hc21 (OV.load rfl rfl hr23) (Zu hc21 (OV.fieldAddr rfl rfl) ?_)
 obtain ⟨x24, hr25, h⟩ := h
 refine Zu hc21 (OV.load rfl rfl hr25) (Zu hc21 (OV.sbin (a := x22) (b := x24) (v := .bool (x22 == x24)) rfl rfl rfl) (Zt hc21 ?_))
 exact GL.jump (fun _ _ h => h) (x22 == x24) h ⟨rfl, rfl, rfl, trivial⟩
 replace h := h.2 hc21
 refine Zk hc21 (Zk hc21 (Zk hc21 (Zk hc21 (Zk hc21 (Zn hc21 ?_)))))
 exact GL.jump (fun _ _ h => h) false h ⟨rfl, rfl, rfl, trivial⟩
 intro b18 H26 h
 replace h := hR20 b18 H26 h
 refine Zm ?_
 obtain ⟨J28, h, hR29⟩ := h
 refine GL.cut (α := Bool) 6 J28 (fun b27 => [(30, .bool b27)]) ?_ ?_
 rcases Bool.eq_false_or_eq_true b18 with hc30 | hc30
 replace h := h.1 hc30
 refine Zu hc30 (OV.fieldAddr rfl rfl) ?_
 obtain ⟨x31, hr32, h⟩ := h
 refine Zu hc30 (OV.load rfl rfl hr32) (Zu hc30 (OV.fieldAddr rfl rfl) ?_)
 obtain ⟨x33, hr34, h⟩ := h
 refine Zu hc30 (OV.load rfl rfl hr34) (GL.call h ⟨_, _, rfl, rfl, hc30⟩ rfl ok_ref02_SameRow (vs := [slv x31, slv x33]) rfl ?_)
 rintro _ H36 ⟨r35, rfl, h⟩
 refine Zt hc30 ?_
 exact GL.jump (fun _ _ h => h) r35 h ⟨rfl, trivial⟩
 replace h := h.2 hc30
 refine Zk hc30 (Zk hc30 (Zk hc30 (Zk hc30 (Zk hc30 (Zn hc30 ?_)))))
 exact GL.jump (fun _ _ h => h) false h ⟨rfl, trivial⟩
 intro b27 H37 h
 replace h := hR29 b27 H37 h
 refine Za (GL.nil ?_)
 exact GC.ret (fun _ _ hf hs => post_tmp1 rfl rfl hf hs ⟨b27, rfl, h⟩)
def sh_slices_insertionSortCmpFunc_zset_Entry (C : Ctx) (p_data : Sl) (p_a : Int) (p_b : Int) (p_cmp : Value) (K : Heap → Prop) (H : Heap) : Prop :=
 lp (α := Int) (w .i64 (p_a + 1)) H (fun x1 J2 H3 =>
 ift (decide ((x1 : Int) < p_b))
 (lp (α := Int) x1 H3 (fun x5 J6 H7 =>
 jn (α := Bool) (fun x9 H10 =>
 ift x9
 (jn (α := Unit) (fun x34 H35 =>
 J6 (w .i64 (x5 - 1)) H35)
 (fun J33 => dr H10 fun Hs37 =>
 ixa p_data (w .i64 (x5 - 1)) fun p39 =>
 ixa p_data x5 fun p44 =>
 (ldT H10 T_zset_Entry.c (p39.1, p39.2 + (w .i64 (x5 - 1) : Int).toNat * 2) fun x50 =>
 Heap.le Hs37 H10 ∧
 ldT H10 T_zset_Entry.c (p44.1, p44.2 + (x5 : Int).toNat * 2) fun x53 =>
 Heap.le Hs37 H10 ∧
 ixa p_data x5 fun p55 =>
 stT (p55.1, p55.2 + (x5 : Int).toNat * 2) (T_zset_Entry.c x50) (fun H61 =>
 Heap.le Hs37 H61 ∧
 ixa p_data (w .i64 (x5 - 1)) fun p62 =>
 stT (p62.1, p62.2 + (w .i64 (x5 - 1) : Int).toNat * 2) (T_zset_Entry.c x53) (fun H67 =>
 J33 () H67) H61) H10) ∧
 (ldT H10 T_zset_Entry.c (p44.1, p44.2 + (x5 : Int).toNat * 2) fun x69 =>
 Heap.le Hs37 H10 ∧
 ldT H10 T_zset_Entry.c (p39.1, p39.2 + (w .i64 (x5 - 1) : Int).toNat * 2) fun x72 =>
 Heap.le Hs37 H10 ∧
 ixa p_data x5 fun p74 =>
 stT (p74.1, p74.2 + (x5 : Int).toNat * 2) (T_zset_Entry.c x72) (fun H80 =>
 Heap.le Hs37 H80 ∧
 ixa p_data (w .i64 (x5 - 1)) fun p81 =>
 stT (p81.1, p81.2 + (w .i64 (x5 - 1) : Int).toNat * 2) (T_zset_Entry.c x69) (fun H86 =>
 J33 () H86) H80) H10)))
 (J2 (w .i64 (x1 + 1)) H10))
 (fun J8 => dr H7 fun Hs12 =>
 ift (decide ((x5 : Int) > p_a))
 (ixa p_data x5 fun p15 =>
 ldT Hs12 T_zset_Entry.c (p15.1, p15.2 + (x5 : Int).toNat * 2) fun x20 =>
 ixa p_data (w .i64 (x5 - 1)) fun p22 =>
 ldT Hs12 T_zset_Entry.c (p22.1, p22.2 + (w .i64 (x5 - 1) : Int).toNat * 2) fun x27 =>
 callU Tryd.prog C p_cmp [.agg (T_zset_Entry.c x20).toArray, .agg (T_zset_Entry.c x27).toArray] H7 (fun v H31 => ∃ (r30 : Int), v = .int .i64 r30 ∧
 Heap.le Hs12 H31 ∧
 J8 (decide ((r30 : Int) < 0)) H31))
 (J8 false H7))))
 (K H3))
theorem ad_slices_insertionSortCmpFunc_zset_Entry (C : Ctx) (p_data : Sl) (p_a : Int) (p_b : Int) (p_cmp : Value) (K : Heap → Prop) (H : Heap) (h : sh_slices_insertionSortCmpFunc_zset_Entry C p_data p_a p_b p_cmp K H) : c_slices_insertionSortCmpFunc_zset_Entry C p_data p_a p_b p_cmp K H := by
 refine Spec.enter Tryd.func51 rfl Tryd.ntmps51 rfl (GC.sub [(0, slv p_data), (1, .int .i64 p_a), (2, .int .i64 p_b), (3, p_cmp)] ⟨rfl, rfl, rfl, rfl, trivial⟩ (Zo (Zm (Zi (.int .i64 (w .i64 (p_a + 1))) (Za (GL.nil (GC.block (GC.loop (α := Int) h (fun x1 => [(8, .int .i64 x1), (0, slv p_data), (1, .int .i64 p_a), (2, .int .i64 p_b), (3, p_cmp)]) ⟨rfl, rfl, rfl, rfl, rfl, trivial⟩ ?_))))))))
 intro x1 H3 J2 h
 refine GC.seq (Zo (Zm (Zm (Zi (.bool (decide ((x1 : Int) < p_b))) (GL.nil ?_)))))
 refine Zd (fun hc4 => ?_) fun hc4 => ?_
 replace h := h.1 hc4
 refine GC.skip (GC.seq (GC.block (Zo (Zm (Za (GL.nil (GC.block (GC.loop (α := Int) h (fun x5 => [(9, .int .i64 x5), (0, slv p_data), (1, .int .i64 p_a), (2, .int .i64 p_b), (3, p_cmp), (8, .int .i64 x1)]) ⟨rfl, rfl, rfl, rfl, rfl, rfl, trivial⟩ ?_))))))))
 intro x5 H7 J6 h
 refine GC.seq (GC.seq ?_)
 obtain ⟨J8, h, hR11⟩ := h
 refine GC.meet (α := Bool) J8 (fun x9 => [(34, .bool x9), (0, slv p_data), (1, .int .i64 p_a), (2, .int .i64 p_b), (3, p_cmp), (8, .int .i64 x1), (9, .int .i64 x5)]) ?_ ?_
 obtain ⟨Hs12, hle13, h⟩ := h
 refine GC.any (Hs := Hs12) (by kernel_rfl) hle13 (Zp 0 rfl (OV.move rfl) (Zp 1 rfl (OV.move rfl) (Zp 2 rfl (OV.ibin (v := .bool (decide ((x5 : Int) > p_a))) rfl rfl rfl) (Zp 3 rfl (OV.move rfl) ?_))))
 rcases Zb (decide ((x5 : Int) > p_a)) with hc14 | hc14
 replace h := h.1 hc14
 refine Zg 4 rfl ⟨_, _, rfl, rfl, hc14⟩ (OV.move rfl) (Zg 5 rfl ⟨_, _, rfl, rfl, hc14⟩ (OV.move rfl) (Zg 6 rfl ⟨_, _, rfl, rfl, hc14⟩ (OV.move rfl) ?_))
 obtain ⟨p15, ha16, hb17, hc18, hd19, h⟩ := h
 refine Zg 7 rfl ⟨_, _, rfl, rfl, hc14⟩ (OV.indexAddr rfl rfl rfl rfl ha16 hb17 hc18 hd19) ?_
 obtain ⟨x20, hr21, h⟩ := h
 refine Zg 8 rfl ⟨_, _, rfl, rfl, hc14⟩ (OV.loadT rfl rfl rfl hr21) (Zg 9 rfl ⟨_, _, rfl, rfl, hc14⟩ (OV.move rfl) (Zg 10 rfl ⟨_, _, rfl, rfl, hc14⟩ (OV.move rfl) (Zg 11 rfl ⟨_, _, rfl, rfl, hc14⟩ (OV.ibin (v := .int .i64 (w .i64 (x5 - 1))) rfl rfl rfl) ?_)))
 obtain ⟨p22, ha23, hb24, hc25, hd26, h⟩ := h
 refine Zg 12 rfl ⟨_, _, rfl, rfl, hc14⟩ (OV.indexAddr rfl rfl rfl rfl ha23 hb24 hc25 hd26) ?_
 obtain ⟨x27, hr28, h⟩ := h
 refine Zg 13 rfl ⟨_, _, rfl, rfl, hc14⟩ (OV.loadT rfl rfl rfl hr28) (GA.eff 14 rfl (by kernel_rfl) (GL.callU (xv := p_cmp) (vs := [.agg (T_zset_Entry.c x20).toArray, .agg (T_zset_Entry.c x27).toArray]) h ⟨_, _, rfl, rfl, hc14⟩ rfl rfl rfl ?_))
 rintro _ H31 ⟨r30, rfl, h⟩
 obtain ⟨hle29, h⟩ := h
 refine GA.back hle29 (Zg 15 rfl ⟨_, _, rfl, rfl, hc14⟩ (OV.ibin (v := .bool (decide ((r30 : Int) < 0))) rfl rfl rfl) (Zp 16 rfl (OV.pickT rfl hc14 rfl) (GA.done (by kernel_rfl) ?_)))
 exact GL.jump (fun _ _ h => h) (decide ((r30 : Int) < 0)) h ⟨rfl, rfl, rfl, rfl, rfl, rfl, rfl, trivial⟩
 replace h := h.2 hc14
 refine Zj 4 rfl ⟨_, rfl, .inl ⟨_, rfl, hc14⟩⟩ (Zj 5 rfl ⟨_, rfl, .inl ⟨_, rfl, hc14⟩⟩ (Zj 6 rfl ⟨_, rfl, .inl ⟨_, rfl, hc14⟩⟩ (Zj 7 rfl ⟨_, rfl, .inl ⟨_, rfl, hc14⟩⟩ (Zj 8 rfl ⟨_, rfl, .inl ⟨_, rfl, hc14⟩⟩ (Zj 9 rfl ⟨_, rfl, .inl ⟨_, rfl, hc14⟩⟩ (Zj 10 rfl ⟨_, rfl, .inl ⟨_, rfl, hc14⟩⟩ (Zj 11 rfl ⟨_, rfl, .inl ⟨_, rfl, hc14⟩⟩ (Zj 12 rfl ⟨_, rfl, .inl ⟨_, rfl, hc14⟩⟩ (Zj 13 rfl ⟨_, rfl, .inl ⟨_, rfl, hc14⟩⟩ (Zj 14 rfl ⟨_, rfl, .inl ⟨_, rfl, hc14⟩⟩ (Zj 15 rfl ⟨_, rfl, .inl ⟨_, rfl, hc14⟩⟩ ?_)))))))))))
 refine Zp 16 rfl (OV.pickF rfl hc14 rfl) (GA.done (by kernel_rfl) ?_)
 exact GL.jump (fun _ _ h => h) false h ⟨rfl, rfl, rfl, rfl, rfl, rfl, rfl, trivial⟩
 intro x9 H10 h
 replace h := hR11 x9 H10 h
 refine GL.nil ?_
 refine Zd (fun hc32 => ?_) fun hc32 => ?_
 replace h := h.1 hc32
 refine GC.skip (GC.seq (GC.block ?_))
 obtain ⟨J33, h, hR36⟩ := h
 refine GC.meet (α := Unit) J33 (fun _ => [(0, slv p_data), (1, .int .i64 p_a), (2, .int .i64 p_b), (3, p_cmp), (8, .int .i64 x1), (9, .int .i64 x5)]) ?_ ?_
 obtain ⟨Hs37, hle38, h⟩ := h
 refine GC.tail (Hs := Hs37) 17 (by kernel_rfl) hle38 (by kernel_rfl) (Zy 0 rfl (OV.move rfl) (Zy 1 rfl (OV.move rfl) (Zy 2 rfl (OV.move rfl) (Zy 3 rfl (OV.move rfl) (Zy 4 rfl (OV.ibin (v := .int .i64 (w .i64 (x5 - 1))) rfl rfl rfl) (Zy 5 rfl (OV.move rfl) (Zy 6 rfl (OV.move rfl) (Zy 7 rfl (OV.ibin (v := .int .i64 (w .i64 (x5 - 1))) rfl rfl rfl) ?_))))))))
 obtain ⟨p39, ha40, hb41, hc42, hd43, h⟩ := h
 refine Zy 8 rfl (OV.indexAddr rfl rfl rfl rfl ha40 hb41 hc42 hd43) (Zy 10 rfl (OV.move rfl) (Zy 11 rfl (OV.move rfl) ?_))
 obtain ⟨p44, ha45, hb46, hc47, hd48, h⟩ := h
 refine Zy 12 rfl (OV.indexAddr rfl rfl rfl rfl ha45 hb46 hc47 hd48) ?_
 refine GT.effs [9, 13] (by kernel_rfl) (by simp) (List.forall_mem_cons.2 ⟨⟨_, rfl, rfl, ?_⟩, List.forall_mem_cons.2 ⟨⟨_, rfl, rfl, ?_⟩, fun _ h => by cases h⟩⟩)
 replace h := h.1
 obtain ⟨x50, hr51, h⟩ := h
 refine Zv (OV.loadT rfl rfl rfl hr51) ?_
 obtain ⟨hle49, h⟩ := h
 refine GT.back hle49 (GT.eff 13 rfl (by kernel_rfl) rfl ?_)
 obtain ⟨x53, hr54, h⟩ := h
 refine Zv (OV.loadT rfl rfl rfl hr54) ?_
 obtain ⟨hle52, h⟩ := h
 refine GT.back hle52 ?_
 obtain ⟨p55, ha56, hb57, hc58, hd59, h⟩ := h
 refine Zy 14 rfl (OV.indexAddr rfl rfl rfl rfl ha56 hb57 hc58 hd59) (GT.eff 15 rfl (by kernel_rfl) rfl (GL.storeT (p := (p55.1, p55.2 + (x5 : Int).toNat * 2)) (vs := T_zset_Entry.c x50) h trivial rfl rfl rfl rfl ?_))
 intro H61 h
 obtain ⟨hle60, h⟩ := h
 refine GT.back hle60 ?_
 obtain ⟨p62, ha63, hb64, hc65, hd66, h⟩ := h
 refine Zy 16 rfl (OV.indexAddr rfl rfl rfl rfl ha63 hb64 hc65 hd66) (GT.done (by kernel_rfl) ?_)
 show GL _ _ _ _ _ [_] _ _
 refine GL.storeT (p := (p62.1, p62.2 + (w .i64 (x5 - 1) : Int).toNat * 2)) (vs := T_zset_Entry.c x53) h trivial rfl rfl rfl rfl ?_
 intro H67 h
 exact GL.jump (fun _ _ h => h) () h ⟨rfl, rfl, rfl, rfl, rfl, rfl, trivial⟩
 replace h := h.2
 obtain ⟨x69, hr70, h⟩ := h
 refine Zv (OV.loadT rfl rfl rfl hr70) ?_
 obtain ⟨hle68, h⟩ := h
 refine GT.back hle68 (GT.eff 9 rfl (by kernel_rfl) rfl ?_)
 obtain ⟨x72, hr73, h⟩ := h
 refine Zv (OV.loadT rfl rfl rfl hr73) ?_
 obtain ⟨hle71, h⟩ := h
 refine GT.back hle71 ?_
 obtain ⟨p74, ha75, hb76, hc77, hd78, h⟩ := h
 refine Zy 14 rfl (OV.indexAddr rfl rfl rfl rfl ha75 hb76 hc77 hd78) (GT.eff 15 rfl (by kernel_rfl) rfl (GL.storeT (p := (p74.1, p74.2 + (x5 : Int).toNat * 2)) (vs := T_zset_Entry.c x72) h trivial rfl rfl rfl rfl ?_))
 intro H80 h
 obtain ⟨hle79, h⟩ := h
 refine GT.back hle79 ?_
 obtain ⟨p81, ha82, hb83, hc84, hd85, h⟩ := h
 refine Zy 16 rfl (OV.indexAddr rfl rfl rfl rfl ha82 hb83 hc84 hd85) (GT.done (by kernel_rfl) ?_)
 show GL _ _ _ _ _ [_] _ _
 refine GL.storeT (p := (p81.1, p81.2 + (w .i64 (x5 - 1) : Int).toNat * 2)) (vs := T_zset_Entry.c x69) h trivial rfl rfl rfl rfl ?_
 intro H86 h
 exact GL.jump (fun _ _ h => h) () h ⟨rfl, rfl, rfl, rfl, rfl, rfl, trivial⟩
 intro x34 H35 h
 replace h := hR36 x34 H35 h
 refine GL.nil_to (fun _ _ h => h) (GC.region (Zm (Zi (.int .i64 (w .i64 (x5 - 1))) (Za ?_))))
 exact GL.jump (fun _ _ h => h) (w .i64 (x5 - 1)) h ⟨rfl, rfl, rfl, rfl, rfl, rfl, trivial⟩
 replace h := h.2 hc32
 refine GC.exit_to (fun _ _ h => h) (GC.region (Zm (Zi (.int .i64 (w .i64 (x1 + 1))) (Za ?_))))
 exact GL.jump (fun _ _ h => h) (w .i64 (x1 + 1)) h ⟨rfl, rfl, rfl, rfl, rfl, trivial⟩
 replace h := h.2 hc4
 exact GC.exit_ends (fun _ _ hf hs => post_tmp0 rfl hf hs ⟨rfl, h⟩)
end Sx
end

