/-
  Texts of this family, one behind the other: Sh1.
-/
import Derived.Test.YtmecgoojoipilaaDoorA1
import Derived.Test.YtmecgoojoipilaaDoorProg
noncomputable section
set_option linter.unusedVariables false
set_option maxRecDepth 100000
namespace Sx
open Go Go.Proofs
structure T_law04_Op where
  Kind : Int
  Row : Sl
  Numbers : Sl
def T_law04_Op.c (x : T_law04_Op) : List Value := [.int .u8 x.Kind, slv x.Row, slv x.Numbers]
def T_law04_Op.zero : T_law04_Op := ⟨0, Sl.nil, Sl.nil⟩
structure T_api_Value where
  Kind : Int
  N : Int
  S : Str
  L : Sl
def T_api_Value.c (x : T_api_Value) : List Value := [.int .u8 x.Kind, .int .i64 x.N, sv x.S, slv x.L]
def T_api_Value.zero : T_api_Value := ⟨0, 0, [], Sl.nil⟩
structure T_ref04_Table where
  L : Sl
def T_ref04_Table.c (x : T_ref04_Table) : List Value := [slv x.L]
def T_ref04_Table.zero : T_ref04_Table := ⟨Sl.nil⟩
structure T_intern_Table where
  all_ : Sl
  by_ : Option Nat
def T_intern_Table.c (x : T_intern_Table) : List Value := [slv x.all_, mv x.by_]
def T_intern_Table.zero : T_intern_Table := ⟨Sl.nil, none⟩

theorem ok_law04_awake : CallOk Tryd.prog 6 := ⟨⟨_, Tryd.func6, rfl, by decide +kernel⟩⟩
theorem ok_intern_New : CallOk Tryd.prog 7 := ⟨⟨_, Tryd.func7, rfl, by decide +kernel⟩⟩
theorem ok_intern_Table_Row : CallOk Tryd.prog 9 := ⟨⟨_, Tryd.func9, rfl, by decide +kernel⟩⟩
theorem ok_ref02_SameRow : CallOk Tryd.prog 10 := ⟨⟨_, Tryd.func10, rfl, by decide +kernel⟩⟩
theorem ok_law04_weight : CallOk Tryd.prog 11 := ⟨⟨_, Tryd.func11, rfl, by decide +kernel⟩⟩
theorem ok_intern_Table_Len : CallOk Tryd.prog 12 := ⟨⟨_, Tryd.func12, rfl, by decide +kernel⟩⟩
theorem ok_intern_Table_Put : CallOk Tryd.prog 13 := ⟨⟨_, Tryd.func13, rfl, by decide +kernel⟩⟩
theorem ok_value_Check : CallOk Tryd.prog 14 := ⟨⟨_, Tryd.func14, rfl, by decide +kernel⟩⟩
theorem ok_intern_Table_At : CallOk Tryd.prog 15 := ⟨⟨_, Tryd.func15, rfl, by decide +kernel⟩⟩
theorem ok_intern_Table_Find : CallOk Tryd.prog 16 := ⟨⟨_, Tryd.func16, rfl, by decide +kernel⟩⟩
theorem ok_ref02_Same : CallOk Tryd.prog 17 := ⟨⟨_, Tryd.func17, rfl, by decide +kernel⟩⟩
theorem ok_intern_Table_PutRow : CallOk Tryd.prog 18 := ⟨⟨_, Tryd.func18, rfl, by decide +kernel⟩⟩
theorem ok_ref04_Ints : CallOk Tryd.prog 19 := ⟨⟨_, Tryd.func19, rfl, by decide +kernel⟩⟩
theorem ok_intern_own : CallOk Tryd.prog 26 := ⟨⟨_, Tryd.func26, rfl, by decide +kernel⟩⟩
theorem ok_value_Show : CallOk Tryd.prog 27 := ⟨⟨_, Tryd.func27, rfl, by decide +kernel⟩⟩
theorem ok_value_depth : CallOk Tryd.prog 28 := ⟨⟨_, Tryd.func28, rfl, by decide +kernel⟩⟩
theorem ok_value_item_look : CallOk Tryd.prog 29 := ⟨⟨_, Tryd.func29, rfl, by decide +kernel⟩⟩
theorem ok_value_Show_1 : CallOk Tryd.prog 31 := ⟨⟨_, Tryd.func31, rfl, by decide +kernel⟩⟩
theorem ok_strings_Builder_WriteByte : CallOk Tryd.prog 32 := ⟨⟨_, Tryd.func32, rfl, by decide +kernel⟩⟩
theorem ok_strings_Builder_WriteString : CallOk Tryd.prog 33 := ⟨⟨_, Tryd.func33, rfl, by decide +kernel⟩⟩
theorem ok_value_Show_2 : CallOk Tryd.prog 34 := ⟨⟨_, Tryd.func34, rfl, by decide +kernel⟩⟩
theorem ok_strconv_FormatBool : CallOk Tryd.prog 35 := ⟨⟨_, Tryd.func35, rfl, by decide +kernel⟩⟩
theorem ok_strconv_FormatInt : CallOk Tryd.prog 36 := ⟨⟨_, Tryd.func36, rfl, by decide +kernel⟩⟩
theorem ok_value_quote : CallOk Tryd.prog 37 := ⟨⟨_, Tryd.func37, rfl, by decide +kernel⟩⟩
theorem ok_strings_Builder_String : CallOk Tryd.prog 38 := ⟨⟨_, Tryd.func38, rfl, by decide +kernel⟩⟩
theorem ok_value_number : CallOk Tryd.prog 39 := ⟨⟨_, Tryd.func39, rfl, by decide +kernel⟩⟩
theorem ok_strings_Cut : CallOk Tryd.prog 40 := ⟨⟨_, Tryd.func40, rfl, by decide +kernel⟩⟩
theorem ok_value_name : CallOk Tryd.prog 41 := ⟨⟨_, Tryd.func41, rfl, by decide +kernel⟩⟩
theorem ok_strings_Builder_copyCheck : CallOk Tryd.prog 45 := ⟨⟨_, Tryd.func45, rfl, by decide +kernel⟩⟩
theorem ok_internal_strconv_FormatBool : CallOk Tryd.prog 46 := ⟨⟨_, Tryd.func46, rfl, by decide +kernel⟩⟩
theorem ok_strings_TrimPrefix : CallOk Tryd.prog 48 := ⟨⟨_, Tryd.func48, rfl, by decide +kernel⟩⟩
theorem ok_strings_Trim : CallOk Tryd.prog 49 := ⟨⟨_, Tryd.func49, rfl, by decide +kernel⟩⟩
theorem ok_internal_stringslite_Cut : CallOk Tryd.prog 50 := ⟨⟨_, Tryd.func50, rfl, by decide +kernel⟩⟩
theorem ok_internal_stringslite_TrimPrefix : CallOk Tryd.prog 59 := ⟨⟨_, Tryd.func59, rfl, by decide +kernel⟩⟩
theorem ok_strings_trimLeftByte : CallOk Tryd.prog 60 := ⟨⟨_, Tryd.func60, rfl, by decide +kernel⟩⟩
theorem ok_strings_trimRightByte : CallOk Tryd.prog 61 := ⟨⟨_, Tryd.func61, rfl, by decide +kernel⟩⟩
theorem ok_strings_makeASCIISet : CallOk Tryd.prog 62 := ⟨⟨_, Tryd.func62, rfl, by decide +kernel⟩⟩
theorem ok_strings_trimLeftASCII : CallOk Tryd.prog 63 := ⟨⟨_, Tryd.func63, rfl, by decide +kernel⟩⟩
theorem ok_strings_trimRightASCII : CallOk Tryd.prog 64 := ⟨⟨_, Tryd.func64, rfl, by decide +kernel⟩⟩
theorem ok_strings_trimLeftUnicode : CallOk Tryd.prog 65 := ⟨⟨_, Tryd.func65, rfl, by decide +kernel⟩⟩
theorem ok_strings_trimRightUnicode : CallOk Tryd.prog 66 := ⟨⟨_, Tryd.func66, rfl, by decide +kernel⟩⟩
theorem ok_internal_stringslite_Index : CallOk Tryd.prog 67 := ⟨⟨_, Tryd.func67, rfl, by decide +kernel⟩⟩
theorem ok_internal_stringslite_HasPrefix : CallOk Tryd.prog 74 := ⟨⟨_, Tryd.func74, rfl, by decide +kernel⟩⟩
theorem ok_strings_asciiSet_contains : CallOk Tryd.prog 75 := ⟨⟨_, Tryd.func75, rfl, by decide +kernel⟩⟩
theorem ok_internal_stringslite_IndexByte : CallOk Tryd.prog 79 := ⟨⟨_, Tryd.func79, rfl, by decide +kernel⟩⟩
theorem ok_internal_bytealg_Cutover : CallOk Tryd.prog 81 := ⟨⟨_, Tryd.func81, rfl, by decide +kernel⟩⟩
theorem ok_internal_bytealg_IndexRabinKarp_string : CallOk Tryd.prog 82 := ⟨⟨_, Tryd.func82, rfl, by decide +kernel⟩⟩
theorem ext_internal_abi_NoEscape : ExtOk Tryd.prog 54 Extern.AbiNoEscape.same := ⟨⟨_, Tryd.func54, by kernel_rfl, by kernel_rfl, by kernel_rfl, by kernel_rfl⟩⟩
theorem ext_internal_bytealg_IndexByteString : ExtOk Tryd.prog 89 Extern.BytealgIndexByte.indexByte := ⟨⟨_, Tryd.func89, by kernel_rfl, by kernel_rfl, by kernel_rfl, by kernel_rfl⟩⟩

abbrev tyB : TypeId := 67
abbrev tyE : TypeId := 5
abbrev Bd (bs : Str) : GO := .bld tyB tyE bs

def c_law04_InternOne (C : Ctx) (p_l : Sl) (K : Bool → Heap → Prop) (H : Heap) : Prop :=
  Spec Tryd.prog C 4 [slv p_l] H (fun v H2 => ∃ (r0 : Bool), v = .bool r0 ∧ K r0 H2)
theorem c_law04_InternOne.mono {C : Ctx} {p_l : Sl} {K K2 : Bool → Heap → Prop} {H : Heap} (h : c_law04_InternOne C p_l K H) (hk : ∀ r0 H2, K r0 H2 → K2 r0 H2) : c_law04_InternOne C p_l K2 H :=
  Spec.mono h fun _ H2 ⟨r0, hv, h2⟩ => ⟨r0, hv, hk r0 H2 h2⟩
theorem c_law04_InternOne.gh {C : Ctx} {p_l : Sl} {K : Bool → Heap → Prop} {H : Heap} (h : c_law04_InternOne C p_l (fun r0 H2 => ∃ H0, Gh C H2 H0 ∧ K r0 H0) H) : c_law04_InternOne C p_l K H :=
  Spec.gh (Spec.mono h fun _ H2 ⟨r0, hv, H0, hg, hk⟩ => ⟨H0, hg, r0, hv, hk⟩)
def c_law04_awake (C : Ctx) (K : Bool → Heap → Prop) (H : Heap) : Prop :=
  Spec Tryd.prog C 6 [] H (fun v H2 => ∃ (r0 : Bool), v = .bool r0 ∧ K r0 H2)
theorem c_law04_awake.mono {C : Ctx} {K K2 : Bool → Heap → Prop} {H : Heap} (h : c_law04_awake C  K H) (hk : ∀ r0 H2, K r0 H2 → K2 r0 H2) : c_law04_awake C  K2 H :=
  Spec.mono h fun _ H2 ⟨r0, hv, h2⟩ => ⟨r0, hv, hk r0 H2 h2⟩
theorem c_law04_awake.gh {C : Ctx} {K : Bool → Heap → Prop} {H : Heap} (h : c_law04_awake C  (fun r0 H2 => ∃ H0, Gh C H2 H0 ∧ K r0 H0) H) : c_law04_awake C  K H :=
  Spec.gh (Spec.mono h fun _ H2 ⟨r0, hv, H0, hg, hk⟩ => ⟨H0, hg, r0, hv, hk⟩)
def c_intern_New (C : Ctx) (K : Option (Nat × Nat) → Heap → Prop) (H : Heap) : Prop :=
  Spec Tryd.prog C 7 [] H (fun v H2 => ∃ (r0 : Option (Nat × Nat)), v = pv r0 ∧ K r0 H2)
theorem c_intern_New.mono {C : Ctx} {K K2 : Option (Nat × Nat) → Heap → Prop} {H : Heap} (h : c_intern_New C  K H) (hk : ∀ r0 H2, K r0 H2 → K2 r0 H2) : c_intern_New C  K2 H :=
  Spec.mono h fun _ H2 ⟨r0, hv, h2⟩ => ⟨r0, hv, hk r0 H2 h2⟩
theorem c_intern_New.gh {C : Ctx} {K : Option (Nat × Nat) → Heap → Prop} {H : Heap} (h : c_intern_New C  (fun r0 H2 => ∃ H0, Gh C H2 H0 ∧ K r0 H0) H) : c_intern_New C  K H :=
  Spec.gh (Spec.mono h fun _ H2 ⟨r0, hv, H0, hg, hk⟩ => ⟨H0, hg, r0, hv, hk⟩)
def c_intern_Table_Row (C : Ctx) (p_t : Option (Nat × Nat)) (p_l : Sl) (K : Sl → Int → Heap → Prop) (H : Heap) : Prop :=
  Spec Tryd.prog C 9 [pv p_t, slv p_l] H (fun v H2 => ∃ (r0 : Sl) (r1 : Int), v = .tuple #[slv r0, .int .i64 r1] ∧ K r0 r1 H2)
theorem c_intern_Table_Row.mono {C : Ctx} {p_t : Option (Nat × Nat)} {p_l : Sl} {K K2 : Sl → Int → Heap → Prop} {H : Heap} (h : c_intern_Table_Row C p_t p_l K H) (hk : ∀ r0 r1 H2, K r0 r1 H2 → K2 r0 r1 H2) : c_intern_Table_Row C p_t p_l K2 H :=
  Spec.mono h fun _ H2 ⟨r0, r1, hv, h2⟩ => ⟨r0, r1, hv, hk r0 r1 H2 h2⟩
theorem c_intern_Table_Row.gh {C : Ctx} {p_t : Option (Nat × Nat)} {p_l : Sl} {K : Sl → Int → Heap → Prop} {H : Heap} (h : c_intern_Table_Row C p_t p_l (fun r0 r1 H2 => ∃ H0, Gh C H2 H0 ∧ K r0 r1 H0) H) : c_intern_Table_Row C p_t p_l K H :=
  Spec.gh (Spec.mono h fun _ H2 ⟨r0, r1, hv, H0, hg, hk⟩ => ⟨H0, hg, r0, r1, hv, hk⟩)
def c_ref02_SameRow (C : Ctx) (p_a : Sl) (p_b : Sl) (K : Bool → Heap → Prop) (H : Heap) : Prop :=
  Spec Tryd.prog C 10 [slv p_a, slv p_b] H (fun v H2 => ∃ (r0 : Bool), v = .bool r0 ∧ K r0 H2)
theorem c_ref02_SameRow.mono {C : Ctx} {p_a : Sl} {p_b : Sl} {K K2 : Bool → Heap → Prop} {H : Heap} (h : c_ref02_SameRow C p_a p_b K H) (hk : ∀ r0 H2, K r0 H2 → K2 r0 H2) : c_ref02_SameRow C p_a p_b K2 H :=
  Spec.mono h fun _ H2 ⟨r0, hv, h2⟩ => ⟨r0, hv, hk r0 H2 h2⟩
theorem c_ref02_SameRow.gh {C : Ctx} {p_a : Sl} {p_b : Sl} {K : Bool → Heap → Prop} {H : Heap} (h : c_ref02_SameRow C p_a p_b (fun r0 H2 => ∃ H0, Gh C H2 H0 ∧ K r0 H0) H) : c_ref02_SameRow C p_a p_b K H :=
  Spec.gh (Spec.mono h fun _ H2 ⟨r0, hv, H0, hg, hk⟩ => ⟨H0, hg, r0, hv, hk⟩)
def c_law04_weight (C : Ctx) (p_v : T_api_Value) (p_most : Int) (K : Int → Heap → Prop) (H : Heap) : Prop :=
  Spec Tryd.prog C 11 [.agg (T_api_Value.c p_v).toArray, .int .i64 p_most] H (fun v H2 => ∃ (r0 : Int), v = .int .i64 r0 ∧ K r0 H2)
theorem c_law04_weight.mono {C : Ctx} {p_v : T_api_Value} {p_most : Int} {K K2 : Int → Heap → Prop} {H : Heap} (h : c_law04_weight C p_v p_most K H) (hk : ∀ r0 H2, K r0 H2 → K2 r0 H2) : c_law04_weight C p_v p_most K2 H :=
  Spec.mono h fun _ H2 ⟨r0, hv, h2⟩ => ⟨r0, hv, hk r0 H2 h2⟩
theorem c_law04_weight.gh {C : Ctx} {p_v : T_api_Value} {p_most : Int} {K : Int → Heap → Prop} {H : Heap} (h : c_law04_weight C p_v p_most (fun r0 H2 => ∃ H0, Gh C H2 H0 ∧ K r0 H0) H) : c_law04_weight C p_v p_most K H :=
  Spec.gh (Spec.mono h fun _ H2 ⟨r0, hv, H0, hg, hk⟩ => ⟨H0, hg, r0, hv, hk⟩)
def c_intern_Table_Len (C : Ctx) (p_t : Option (Nat × Nat)) (K : Int → Heap → Prop) (H : Heap) : Prop :=
  Spec Tryd.prog C 12 [pv p_t] H (fun v H2 => ∃ (r0 : Int), v = .int .i64 r0 ∧ K r0 H2)
theorem c_intern_Table_Len.mono {C : Ctx} {p_t : Option (Nat × Nat)} {K K2 : Int → Heap → Prop} {H : Heap} (h : c_intern_Table_Len C p_t K H) (hk : ∀ r0 H2, K r0 H2 → K2 r0 H2) : c_intern_Table_Len C p_t K2 H :=
  Spec.mono h fun _ H2 ⟨r0, hv, h2⟩ => ⟨r0, hv, hk r0 H2 h2⟩
theorem c_intern_Table_Len.gh {C : Ctx} {p_t : Option (Nat × Nat)} {K : Int → Heap → Prop} {H : Heap} (h : c_intern_Table_Len C p_t (fun r0 H2 => ∃ H0, Gh C H2 H0 ∧ K r0 H0) H) : c_intern_Table_Len C p_t K H :=
  Spec.gh (Spec.mono h fun _ H2 ⟨r0, hv, H0, hg, hk⟩ => ⟨H0, hg, r0, hv, hk⟩)
def c_intern_Table_Put (C : Ctx) (p_t : Option (Nat × Nat)) (p_v : T_api_Value) (K : Int → Int → Heap → Prop) (H : Heap) : Prop :=
  Spec Tryd.prog C 13 [pv p_t, .agg (T_api_Value.c p_v).toArray] H (fun v H2 => ∃ (r0 : Int) (r1 : Int), v = .tuple #[.int .i64 r0, .int .i64 r1] ∧ K r0 r1 H2)
theorem c_intern_Table_Put.mono {C : Ctx} {p_t : Option (Nat × Nat)} {p_v : T_api_Value} {K K2 : Int → Int → Heap → Prop} {H : Heap} (h : c_intern_Table_Put C p_t p_v K H) (hk : ∀ r0 r1 H2, K r0 r1 H2 → K2 r0 r1 H2) : c_intern_Table_Put C p_t p_v K2 H :=
  Spec.mono h fun _ H2 ⟨r0, r1, hv, h2⟩ => ⟨r0, r1, hv, hk r0 r1 H2 h2⟩
theorem c_intern_Table_Put.gh {C : Ctx} {p_t : Option (Nat × Nat)} {p_v : T_api_Value} {K : Int → Int → Heap → Prop} {H : Heap} (h : c_intern_Table_Put C p_t p_v (fun r0 r1 H2 => ∃ H0, Gh C H2 H0 ∧ K r0 r1 H0) H) : c_intern_Table_Put C p_t p_v K H :=
  Spec.gh (Spec.mono h fun _ H2 ⟨r0, r1, hv, H0, hg, hk⟩ => ⟨H0, hg, r0, r1, hv, hk⟩)
def c_value_Check (C : Ctx) (p_v : T_api_Value) (K : Int → Heap → Prop) (H : Heap) : Prop :=
  Spec Tryd.prog C 14 [.agg (T_api_Value.c p_v).toArray] H (fun v H2 => ∃ (r0 : Int), v = .int .i64 r0 ∧ K r0 H2)
theorem c_value_Check.mono {C : Ctx} {p_v : T_api_Value} {K K2 : Int → Heap → Prop} {H : Heap} (h : c_value_Check C p_v K H) (hk : ∀ r0 H2, K r0 H2 → K2 r0 H2) : c_value_Check C p_v K2 H :=
  Spec.mono h fun _ H2 ⟨r0, hv, h2⟩ => ⟨r0, hv, hk r0 H2 h2⟩
theorem c_value_Check.gh {C : Ctx} {p_v : T_api_Value} {K : Int → Heap → Prop} {H : Heap} (h : c_value_Check C p_v (fun r0 H2 => ∃ H0, Gh C H2 H0 ∧ K r0 H0) H) : c_value_Check C p_v K H :=
  Spec.gh (Spec.mono h fun _ H2 ⟨r0, hv, H0, hg, hk⟩ => ⟨H0, hg, r0, hv, hk⟩)
def c_intern_Table_At (C : Ctx) (p_t : Option (Nat × Nat)) (p_n : Int) (K : T_api_Value → Int → Heap → Prop) (H : Heap) : Prop :=
  Spec Tryd.prog C 15 [pv p_t, .int .i64 p_n] H (fun v H2 => ∃ (r0 : T_api_Value) (r1 : Int), v = .tuple #[.agg (T_api_Value.c r0).toArray, .int .i64 r1] ∧ K r0 r1 H2)
theorem c_intern_Table_At.mono {C : Ctx} {p_t : Option (Nat × Nat)} {p_n : Int} {K K2 : T_api_Value → Int → Heap → Prop} {H : Heap} (h : c_intern_Table_At C p_t p_n K H) (hk : ∀ r0 r1 H2, K r0 r1 H2 → K2 r0 r1 H2) : c_intern_Table_At C p_t p_n K2 H :=
  Spec.mono h fun _ H2 ⟨r0, r1, hv, h2⟩ => ⟨r0, r1, hv, hk r0 r1 H2 h2⟩
theorem c_intern_Table_At.gh {C : Ctx} {p_t : Option (Nat × Nat)} {p_n : Int} {K : T_api_Value → Int → Heap → Prop} {H : Heap} (h : c_intern_Table_At C p_t p_n (fun r0 r1 H2 => ∃ H0, Gh C H2 H0 ∧ K r0 r1 H0) H) : c_intern_Table_At C p_t p_n K H :=
  Spec.gh (Spec.mono h fun _ H2 ⟨r0, r1, hv, H0, hg, hk⟩ => ⟨H0, hg, r0, r1, hv, hk⟩)
def c_intern_Table_Find (C : Ctx) (p_t : Option (Nat × Nat)) (p_v : T_api_Value) (K : Int → Bool → Heap → Prop) (H : Heap) : Prop :=
  Spec Tryd.prog C 16 [pv p_t, .agg (T_api_Value.c p_v).toArray] H (fun v H2 => ∃ (r0 : Int) (r1 : Bool), v = .tuple #[.int .i64 r0, .bool r1] ∧ K r0 r1 H2)
theorem c_intern_Table_Find.mono {C : Ctx} {p_t : Option (Nat × Nat)} {p_v : T_api_Value} {K K2 : Int → Bool → Heap → Prop} {H : Heap} (h : c_intern_Table_Find C p_t p_v K H) (hk : ∀ r0 r1 H2, K r0 r1 H2 → K2 r0 r1 H2) : c_intern_Table_Find C p_t p_v K2 H :=
  Spec.mono h fun _ H2 ⟨r0, r1, hv, h2⟩ => ⟨r0, r1, hv, hk r0 r1 H2 h2⟩
theorem c_intern_Table_Find.gh {C : Ctx} {p_t : Option (Nat × Nat)} {p_v : T_api_Value} {K : Int → Bool → Heap → Prop} {H : Heap} (h : c_intern_Table_Find C p_t p_v (fun r0 r1 H2 => ∃ H0, Gh C H2 H0 ∧ K r0 r1 H0) H) : c_intern_Table_Find C p_t p_v K H :=
  Spec.gh (Spec.mono h fun _ H2 ⟨r0, r1, hv, H0, hg, hk⟩ => ⟨H0, hg, r0, r1, hv, hk⟩)
def c_ref02_Same (C : Ctx) (p_a : T_api_Value) (p_b : T_api_Value) (K : Bool → Heap → Prop) (H : Heap) : Prop :=
  Spec Tryd.prog C 17 [.agg (T_api_Value.c p_a).toArray, .agg (T_api_Value.c p_b).toArray] H (fun v H2 => ∃ (r0 : Bool), v = .bool r0 ∧ K r0 H2)
theorem c_ref02_Same.mono {C : Ctx} {p_a : T_api_Value} {p_b : T_api_Value} {K K2 : Bool → Heap → Prop} {H : Heap} (h : c_ref02_Same C p_a p_b K H) (hk : ∀ r0 H2, K r0 H2 → K2 r0 H2) : c_ref02_Same C p_a p_b K2 H :=
  Spec.mono h fun _ H2 ⟨r0, hv, h2⟩ => ⟨r0, hv, hk r0 H2 h2⟩
theorem c_ref02_Same.gh {C : Ctx} {p_a : T_api_Value} {p_b : T_api_Value} {K : Bool → Heap → Prop} {H : Heap} (h : c_ref02_Same C p_a p_b (fun r0 H2 => ∃ H0, Gh C H2 H0 ∧ K r0 H0) H) : c_ref02_Same C p_a p_b K H :=
  Spec.gh (Spec.mono h fun _ H2 ⟨r0, hv, H0, hg, hk⟩ => ⟨H0, hg, r0, hv, hk⟩)
def c_intern_Table_PutRow (C : Ctx) (p_t : Option (Nat × Nat)) (p_l : Sl) (K : Sl → Int → Heap → Prop) (H : Heap) : Prop :=
  Spec Tryd.prog C 18 [pv p_t, slv p_l] H (fun v H2 => ∃ (r0 : Sl) (r1 : Int), v = .tuple #[slv r0, .int .i64 r1] ∧ K r0 r1 H2)
theorem c_intern_Table_PutRow.mono {C : Ctx} {p_t : Option (Nat × Nat)} {p_l : Sl} {K K2 : Sl → Int → Heap → Prop} {H : Heap} (h : c_intern_Table_PutRow C p_t p_l K H) (hk : ∀ r0 r1 H2, K r0 r1 H2 → K2 r0 r1 H2) : c_intern_Table_PutRow C p_t p_l K2 H :=
  Spec.mono h fun _ H2 ⟨r0, r1, hv, h2⟩ => ⟨r0, r1, hv, hk r0 r1 H2 h2⟩
theorem c_intern_Table_PutRow.gh {C : Ctx} {p_t : Option (Nat × Nat)} {p_l : Sl} {K : Sl → Int → Heap → Prop} {H : Heap} (h : c_intern_Table_PutRow C p_t p_l (fun r0 r1 H2 => ∃ H0, Gh C H2 H0 ∧ K r0 r1 H0) H) : c_intern_Table_PutRow C p_t p_l K H :=
  Spec.gh (Spec.mono h fun _ H2 ⟨r0, r1, hv, H0, hg, hk⟩ => ⟨H0, hg, r0, r1, hv, hk⟩)
def c_ref04_Ints (C : Ctx) (p_a : Sl) (p_b : Sl) (K : Bool → Heap → Prop) (H : Heap) : Prop :=
  Spec Tryd.prog C 19 [slv p_a, slv p_b] H (fun v H2 => ∃ (r0 : Bool), v = .bool r0 ∧ K r0 H2)
theorem c_ref04_Ints.mono {C : Ctx} {p_a : Sl} {p_b : Sl} {K K2 : Bool → Heap → Prop} {H : Heap} (h : c_ref04_Ints C p_a p_b K H) (hk : ∀ r0 H2, K r0 H2 → K2 r0 H2) : c_ref04_Ints C p_a p_b K2 H :=
  Spec.mono h fun _ H2 ⟨r0, hv, h2⟩ => ⟨r0, hv, hk r0 H2 h2⟩
theorem c_ref04_Ints.gh {C : Ctx} {p_a : Sl} {p_b : Sl} {K : Bool → Heap → Prop} {H : Heap} (h : c_ref04_Ints C p_a p_b (fun r0 H2 => ∃ H0, Gh C H2 H0 ∧ K r0 H0) H) : c_ref04_Ints C p_a p_b K H :=
  Spec.gh (Spec.mono h fun _ H2 ⟨r0, hv, H0, hg, hk⟩ => ⟨H0, hg, r0, hv, hk⟩)
def c_intern_own (C : Ctx) (p_l : Sl) (K : Sl → Heap → Prop) (H : Heap) : Prop :=
  Spec Tryd.prog C 26 [slv p_l] H (fun v H2 => ∃ (r0 : Sl), v = slv r0 ∧ K r0 H2)
theorem c_intern_own.mono {C : Ctx} {p_l : Sl} {K K2 : Sl → Heap → Prop} {H : Heap} (h : c_intern_own C p_l K H) (hk : ∀ r0 H2, K r0 H2 → K2 r0 H2) : c_intern_own C p_l K2 H :=
  Spec.mono h fun _ H2 ⟨r0, hv, h2⟩ => ⟨r0, hv, hk r0 H2 h2⟩
theorem c_intern_own.gh {C : Ctx} {p_l : Sl} {K : Sl → Heap → Prop} {H : Heap} (h : c_intern_own C p_l (fun r0 H2 => ∃ H0, Gh C H2 H0 ∧ K r0 H0) H) : c_intern_own C p_l K H :=
  Spec.gh (Spec.mono h fun _ H2 ⟨r0, hv, H0, hg, hk⟩ => ⟨H0, hg, r0, hv, hk⟩)
def c_value_Show (C : Ctx) (p_v : T_api_Value) (K : Str → Heap → Prop) (H : Heap) : Prop :=
  Spec Tryd.prog C 27 [.agg (T_api_Value.c p_v).toArray] H (fun v H2 => ∃ (r0 : Str), v = sv r0 ∧ K r0 H2)
theorem c_value_Show.mono {C : Ctx} {p_v : T_api_Value} {K K2 : Str → Heap → Prop} {H : Heap} (h : c_value_Show C p_v K H) (hk : ∀ r0 H2, K r0 H2 → K2 r0 H2) : c_value_Show C p_v K2 H :=
  Spec.mono h fun _ H2 ⟨r0, hv, h2⟩ => ⟨r0, hv, hk r0 H2 h2⟩
theorem c_value_Show.gh {C : Ctx} {p_v : T_api_Value} {K : Str → Heap → Prop} {H : Heap} (h : c_value_Show C p_v (fun r0 H2 => ∃ H0, Gh C H2 H0 ∧ K r0 H0) H) : c_value_Show C p_v K H :=
  Spec.gh (Spec.mono h fun _ H2 ⟨r0, hv, H0, hg, hk⟩ => ⟨H0, hg, r0, hv, hk⟩)
def c_value_depth (C : Ctx) (p_v : T_api_Value) (p_most : Int) (K : Int → Heap → Prop) (H : Heap) : Prop :=
  Spec Tryd.prog C 28 [.agg (T_api_Value.c p_v).toArray, .int .i64 p_most] H (fun v H2 => ∃ (r0 : Int), v = .int .i64 r0 ∧ K r0 H2)
theorem c_value_depth.mono {C : Ctx} {p_v : T_api_Value} {p_most : Int} {K K2 : Int → Heap → Prop} {H : Heap} (h : c_value_depth C p_v p_most K H) (hk : ∀ r0 H2, K r0 H2 → K2 r0 H2) : c_value_depth C p_v p_most K2 H :=
  Spec.mono h fun _ H2 ⟨r0, hv, h2⟩ => ⟨r0, hv, hk r0 H2 h2⟩
theorem c_value_depth.gh {C : Ctx} {p_v : T_api_Value} {p_most : Int} {K : Int → Heap → Prop} {H : Heap} (h : c_value_depth C p_v p_most (fun r0 H2 => ∃ H0, Gh C H2 H0 ∧ K r0 H0) H) : c_value_depth C p_v p_most K H :=
  Spec.gh (Spec.mono h fun _ H2 ⟨r0, hv, H0, hg, hk⟩ => ⟨H0, hg, r0, hv, hk⟩)
def c_value_item_look (C : Ctx) (p_v : T_api_Value) (K : Bool → Bool → Heap → Prop) (H : Heap) : Prop :=
  Spec Tryd.prog C 29 [.agg (T_api_Value.c p_v).toArray] H (fun v H2 => ∃ (r0 : Bool) (r1 : Bool), v = .tuple #[.bool r0, .bool r1] ∧ K r0 r1 H2)
theorem c_value_item_look.mono {C : Ctx} {p_v : T_api_Value} {K K2 : Bool → Bool → Heap → Prop} {H : Heap} (h : c_value_item_look C p_v K H) (hk : ∀ r0 r1 H2, K r0 r1 H2 → K2 r0 r1 H2) : c_value_item_look C p_v K2 H :=
  Spec.mono h fun _ H2 ⟨r0, r1, hv, h2⟩ => ⟨r0, r1, hv, hk r0 r1 H2 h2⟩
theorem c_value_item_look.gh {C : Ctx} {p_v : T_api_Value} {K : Bool → Bool → Heap → Prop} {H : Heap} (h : c_value_item_look C p_v (fun r0 r1 H2 => ∃ H0, Gh C H2 H0 ∧ K r0 r1 H0) H) : c_value_item_look C p_v K H :=
  Spec.gh (Spec.mono h fun _ H2 ⟨r0, r1, hv, H0, hg, hk⟩ => ⟨H0, hg, r0, r1, hv, hk⟩)
def c_value_Show_1 (C : Ctx) (p_l : Sl) (v0 : Nat × Nat) (v1 : Nat × Nat) (K : Heap → Prop) (H : Heap) : Prop :=
  Spec Tryd.prog C 31 [slv p_l, pv (some v0), pv (some v1)] H (fun v H2 => v = .tuple #[] ∧ K H2)
theorem c_value_Show_1.mono {C : Ctx} {p_l : Sl} {v0 : Nat × Nat} {v1 : Nat × Nat} {K K2 : Heap → Prop} {H : Heap} (h : c_value_Show_1 C p_l v0 v1 K H) (hk : ∀  H2, K  H2 → K2  H2) : c_value_Show_1 C p_l v0 v1 K2 H :=
  Spec.mono h fun _ H2 ⟨hv, h2⟩ => ⟨hv, hk H2 h2⟩
theorem c_value_Show_1.gh {C : Ctx} {p_l : Sl} {v0 : Nat × Nat} {v1 : Nat × Nat} {K : Heap → Prop} {H : Heap} (h : c_value_Show_1 C p_l v0 v1 (fun  H2 => ∃ H0, Gh C H2 H0 ∧ K  H0) H) : c_value_Show_1 C p_l v0 v1 K H :=
  Spec.gh (Spec.mono h fun _ H2 ⟨hv, H0, hg, hk⟩ => ⟨H0, hg, hv, hk⟩)
def c_strings_Builder_WriteByte (C : Ctx) (p_b : Option (Nat × Nat)) (p_c : Int) (K : Value → Heap → Prop) (H : Heap) : Prop :=
  Spec Tryd.prog C 32 [pv p_b, .int .u8 p_c] H (fun v H2 => ∃ (r0 : Value), v = r0 ∧ K r0 H2)
theorem c_strings_Builder_WriteByte.mono {C : Ctx} {p_b : Option (Nat × Nat)} {p_c : Int} {K K2 : Value → Heap → Prop} {H : Heap} (h : c_strings_Builder_WriteByte C p_b p_c K H) (hk : ∀ r0 H2, K r0 H2 → K2 r0 H2) : c_strings_Builder_WriteByte C p_b p_c K2 H :=
  Spec.mono h fun _ H2 ⟨r0, hv, h2⟩ => ⟨r0, hv, hk r0 H2 h2⟩
theorem c_strings_Builder_WriteByte.gh {C : Ctx} {p_b : Option (Nat × Nat)} {p_c : Int} {K : Value → Heap → Prop} {H : Heap} (h : c_strings_Builder_WriteByte C p_b p_c (fun r0 H2 => ∃ H0, Gh C H2 H0 ∧ K r0 H0) H) : c_strings_Builder_WriteByte C p_b p_c K H :=
  Spec.gh (Spec.mono h fun _ H2 ⟨r0, hv, H0, hg, hk⟩ => ⟨H0, hg, r0, hv, hk⟩)
def c_strings_Builder_WriteString (C : Ctx) (p_b : Option (Nat × Nat)) (p_s : Str) (K : Int → Value → Heap → Prop) (H : Heap) : Prop :=
  Spec Tryd.prog C 33 [pv p_b, sv p_s] H (fun v H2 => ∃ (r0 : Int) (r1 : Value), v = .tuple #[.int .i64 r0, r1] ∧ K r0 r1 H2)
theorem c_strings_Builder_WriteString.mono {C : Ctx} {p_b : Option (Nat × Nat)} {p_s : Str} {K K2 : Int → Value → Heap → Prop} {H : Heap} (h : c_strings_Builder_WriteString C p_b p_s K H) (hk : ∀ r0 r1 H2, K r0 r1 H2 → K2 r0 r1 H2) : c_strings_Builder_WriteString C p_b p_s K2 H :=
  Spec.mono h fun _ H2 ⟨r0, r1, hv, h2⟩ => ⟨r0, r1, hv, hk r0 r1 H2 h2⟩
theorem c_strings_Builder_WriteString.gh {C : Ctx} {p_b : Option (Nat × Nat)} {p_s : Str} {K : Int → Value → Heap → Prop} {H : Heap} (h : c_strings_Builder_WriteString C p_b p_s (fun r0 r1 H2 => ∃ H0, Gh C H2 H0 ∧ K r0 r1 H0) H) : c_strings_Builder_WriteString C p_b p_s K H :=
  Spec.gh (Spec.mono h fun _ H2 ⟨r0, r1, hv, H0, hg, hk⟩ => ⟨H0, hg, r0, r1, hv, hk⟩)
def c_value_Show_2 (C : Ctx) (p_v : T_api_Value) (v0 : Nat × Nat) (v1 : Nat × Nat) (K : Heap → Prop) (H : Heap) : Prop :=
  Spec Tryd.prog C 34 [.agg (T_api_Value.c p_v).toArray, pv (some v0), pv (some v1)] H (fun v H2 => v = .tuple #[] ∧ K H2)
theorem c_value_Show_2.mono {C : Ctx} {p_v : T_api_Value} {v0 : Nat × Nat} {v1 : Nat × Nat} {K K2 : Heap → Prop} {H : Heap} (h : c_value_Show_2 C p_v v0 v1 K H) (hk : ∀  H2, K  H2 → K2  H2) : c_value_Show_2 C p_v v0 v1 K2 H :=
  Spec.mono h fun _ H2 ⟨hv, h2⟩ => ⟨hv, hk H2 h2⟩
theorem c_value_Show_2.gh {C : Ctx} {p_v : T_api_Value} {v0 : Nat × Nat} {v1 : Nat × Nat} {K : Heap → Prop} {H : Heap} (h : c_value_Show_2 C p_v v0 v1 (fun  H2 => ∃ H0, Gh C H2 H0 ∧ K  H0) H) : c_value_Show_2 C p_v v0 v1 K H :=
  Spec.gh (Spec.mono h fun _ H2 ⟨hv, H0, hg, hk⟩ => ⟨H0, hg, hv, hk⟩)
def c_strconv_FormatBool (C : Ctx) (p_b : Bool) (K : Str → Heap → Prop) (H : Heap) : Prop :=
  Spec Tryd.prog C 35 [.bool p_b] H (fun v H2 => ∃ (r0 : Str), v = sv r0 ∧ K r0 H2)
theorem c_strconv_FormatBool.mono {C : Ctx} {p_b : Bool} {K K2 : Str → Heap → Prop} {H : Heap} (h : c_strconv_FormatBool C p_b K H) (hk : ∀ r0 H2, K r0 H2 → K2 r0 H2) : c_strconv_FormatBool C p_b K2 H :=
  Spec.mono h fun _ H2 ⟨r0, hv, h2⟩ => ⟨r0, hv, hk r0 H2 h2⟩
theorem c_strconv_FormatBool.gh {C : Ctx} {p_b : Bool} {K : Str → Heap → Prop} {H : Heap} (h : c_strconv_FormatBool C p_b (fun r0 H2 => ∃ H0, Gh C H2 H0 ∧ K r0 H0) H) : c_strconv_FormatBool C p_b K H :=
  Spec.gh (Spec.mono h fun _ H2 ⟨r0, hv, H0, hg, hk⟩ => ⟨H0, hg, r0, hv, hk⟩)
def c_strconv_FormatInt (C : Ctx) (p_i : Int) (p_base : Int) (K : Str → Heap → Prop) (H : Heap) : Prop :=
  Spec Tryd.prog C 36 [.int .i64 p_i, .int .i64 p_base] H (fun v H2 => ∃ (r0 : Str), v = sv r0 ∧ K r0 H2)
theorem c_strconv_FormatInt.mono {C : Ctx} {p_i : Int} {p_base : Int} {K K2 : Str → Heap → Prop} {H : Heap} (h : c_strconv_FormatInt C p_i p_base K H) (hk : ∀ r0 H2, K r0 H2 → K2 r0 H2) : c_strconv_FormatInt C p_i p_base K2 H :=
  Spec.mono h fun _ H2 ⟨r0, hv, h2⟩ => ⟨r0, hv, hk r0 H2 h2⟩
theorem c_strconv_FormatInt.gh {C : Ctx} {p_i : Int} {p_base : Int} {K : Str → Heap → Prop} {H : Heap} (h : c_strconv_FormatInt C p_i p_base (fun r0 H2 => ∃ H0, Gh C H2 H0 ∧ K r0 H0) H) : c_strconv_FormatInt C p_i p_base K H :=
  Spec.gh (Spec.mono h fun _ H2 ⟨r0, hv, H0, hg, hk⟩ => ⟨H0, hg, r0, hv, hk⟩)
def c_value_quote (C : Ctx) (p_b : Option (Nat × Nat)) (p_s : Str) (K : Heap → Prop) (H : Heap) : Prop :=
  Spec Tryd.prog C 37 [pv p_b, sv p_s] H (fun v H2 => v = .tuple #[] ∧ K H2)
theorem c_value_quote.mono {C : Ctx} {p_b : Option (Nat × Nat)} {p_s : Str} {K K2 : Heap → Prop} {H : Heap} (h : c_value_quote C p_b p_s K H) (hk : ∀  H2, K  H2 → K2  H2) : c_value_quote C p_b p_s K2 H :=
  Spec.mono h fun _ H2 ⟨hv, h2⟩ => ⟨hv, hk H2 h2⟩
theorem c_value_quote.gh {C : Ctx} {p_b : Option (Nat × Nat)} {p_s : Str} {K : Heap → Prop} {H : Heap} (h : c_value_quote C p_b p_s (fun  H2 => ∃ H0, Gh C H2 H0 ∧ K  H0) H) : c_value_quote C p_b p_s K H :=
  Spec.gh (Spec.mono h fun _ H2 ⟨hv, H0, hg, hk⟩ => ⟨H0, hg, hv, hk⟩)
def c_strings_Builder_String (C : Ctx) (p_b : Option (Nat × Nat)) (K : Str → Heap → Prop) (H : Heap) : Prop :=
  Spec Tryd.prog C 38 [pv p_b] H (fun v H2 => ∃ (r0 : Str), v = sv r0 ∧ K r0 H2)
theorem c_strings_Builder_String.mono {C : Ctx} {p_b : Option (Nat × Nat)} {K K2 : Str → Heap → Prop} {H : Heap} (h : c_strings_Builder_String C p_b K H) (hk : ∀ r0 H2, K r0 H2 → K2 r0 H2) : c_strings_Builder_String C p_b K2 H :=
  Spec.mono h fun _ H2 ⟨r0, hv, h2⟩ => ⟨r0, hv, hk r0 H2 h2⟩
theorem c_strings_Builder_String.gh {C : Ctx} {p_b : Option (Nat × Nat)} {K : Str → Heap → Prop} {H : Heap} (h : c_strings_Builder_String C p_b (fun r0 H2 => ∃ H0, Gh C H2 H0 ∧ K r0 H0) H) : c_strings_Builder_String C p_b K H :=
  Spec.gh (Spec.mono h fun _ H2 ⟨r0, hv, H0, hg, hk⟩ => ⟨H0, hg, r0, hv, hk⟩)
def c_value_number (C : Ctx) (p_s : Str) (K : Int → Bool → Heap → Prop) (H : Heap) : Prop :=
  Spec Tryd.prog C 39 [sv p_s] H (fun v H2 => ∃ (r0 : Int) (r1 : Bool), v = .tuple #[.int .i64 r0, .bool r1] ∧ K r0 r1 H2)
theorem c_value_number.mono {C : Ctx} {p_s : Str} {K K2 : Int → Bool → Heap → Prop} {H : Heap} (h : c_value_number C p_s K H) (hk : ∀ r0 r1 H2, K r0 r1 H2 → K2 r0 r1 H2) : c_value_number C p_s K2 H :=
  Spec.mono h fun _ H2 ⟨r0, r1, hv, h2⟩ => ⟨r0, r1, hv, hk r0 r1 H2 h2⟩
theorem c_value_number.gh {C : Ctx} {p_s : Str} {K : Int → Bool → Heap → Prop} {H : Heap} (h : c_value_number C p_s (fun r0 r1 H2 => ∃ H0, Gh C H2 H0 ∧ K r0 r1 H0) H) : c_value_number C p_s K H :=
  Spec.gh (Spec.mono h fun _ H2 ⟨r0, r1, hv, H0, hg, hk⟩ => ⟨H0, hg, r0, r1, hv, hk⟩)
def c_strings_Cut (C : Ctx) (p_s : Str) (p_sep : Str) (K : Str → Str → Bool → Heap → Prop) (H : Heap) : Prop :=
  Spec Tryd.prog C 40 [sv p_s, sv p_sep] H (fun v H2 => ∃ (r0 : Str) (r1 : Str) (r2 : Bool), v = .tuple #[sv r0, sv r1, .bool r2] ∧ K r0 r1 r2 H2)
theorem c_strings_Cut.mono {C : Ctx} {p_s : Str} {p_sep : Str} {K K2 : Str → Str → Bool → Heap → Prop} {H : Heap} (h : c_strings_Cut C p_s p_sep K H) (hk : ∀ r0 r1 r2 H2, K r0 r1 r2 H2 → K2 r0 r1 r2 H2) : c_strings_Cut C p_s p_sep K2 H :=
  Spec.mono h fun _ H2 ⟨r0, r1, r2, hv, h2⟩ => ⟨r0, r1, r2, hv, hk r0 r1 r2 H2 h2⟩
theorem c_strings_Cut.gh {C : Ctx} {p_s : Str} {p_sep : Str} {K : Str → Str → Bool → Heap → Prop} {H : Heap} (h : c_strings_Cut C p_s p_sep (fun r0 r1 r2 H2 => ∃ H0, Gh C H2 H0 ∧ K r0 r1 r2 H0) H) : c_strings_Cut C p_s p_sep K H :=
  Spec.gh (Spec.mono h fun _ H2 ⟨r0, r1, r2, hv, H0, hg, hk⟩ => ⟨H0, hg, r0, r1, r2, hv, hk⟩)
def c_value_name (C : Ctx) (p_s : Str) (K : Bool → Heap → Prop) (H : Heap) : Prop :=
  Spec Tryd.prog C 41 [sv p_s] H (fun v H2 => ∃ (r0 : Bool), v = .bool r0 ∧ K r0 H2)
theorem c_value_name.mono {C : Ctx} {p_s : Str} {K K2 : Bool → Heap → Prop} {H : Heap} (h : c_value_name C p_s K H) (hk : ∀ r0 H2, K r0 H2 → K2 r0 H2) : c_value_name C p_s K2 H :=
  Spec.mono h fun _ H2 ⟨r0, hv, h2⟩ => ⟨r0, hv, hk r0 H2 h2⟩
theorem c_value_name.gh {C : Ctx} {p_s : Str} {K : Bool → Heap → Prop} {H : Heap} (h : c_value_name C p_s (fun r0 H2 => ∃ H0, Gh C H2 H0 ∧ K r0 H0) H) : c_value_name C p_s K H :=
  Spec.gh (Spec.mono h fun _ H2 ⟨r0, hv, H0, hg, hk⟩ => ⟨H0, hg, r0, hv, hk⟩)
def c_strings_Builder_copyCheck (C : Ctx) (p_b : Option (Nat × Nat)) (K : Heap → Prop) (H : Heap) : Prop :=
  Spec Tryd.prog C 45 [pv p_b] H (fun v H2 => v = .tuple #[] ∧ K H2)
theorem c_strings_Builder_copyCheck.mono {C : Ctx} {p_b : Option (Nat × Nat)} {K K2 : Heap → Prop} {H : Heap} (h : c_strings_Builder_copyCheck C p_b K H) (hk : ∀  H2, K  H2 → K2  H2) : c_strings_Builder_copyCheck C p_b K2 H :=
  Spec.mono h fun _ H2 ⟨hv, h2⟩ => ⟨hv, hk H2 h2⟩
theorem c_strings_Builder_copyCheck.gh {C : Ctx} {p_b : Option (Nat × Nat)} {K : Heap → Prop} {H : Heap} (h : c_strings_Builder_copyCheck C p_b (fun  H2 => ∃ H0, Gh C H2 H0 ∧ K  H0) H) : c_strings_Builder_copyCheck C p_b K H :=
  Spec.gh (Spec.mono h fun _ H2 ⟨hv, H0, hg, hk⟩ => ⟨H0, hg, hv, hk⟩)
def c_internal_strconv_FormatBool (C : Ctx) (p_b : Bool) (K : Str → Heap → Prop) (H : Heap) : Prop :=
  Spec Tryd.prog C 46 [.bool p_b] H (fun v H2 => ∃ (r0 : Str), v = sv r0 ∧ K r0 H2)
theorem c_internal_strconv_FormatBool.mono {C : Ctx} {p_b : Bool} {K K2 : Str → Heap → Prop} {H : Heap} (h : c_internal_strconv_FormatBool C p_b K H) (hk : ∀ r0 H2, K r0 H2 → K2 r0 H2) : c_internal_strconv_FormatBool C p_b K2 H :=
  Spec.mono h fun _ H2 ⟨r0, hv, h2⟩ => ⟨r0, hv, hk r0 H2 h2⟩
theorem c_internal_strconv_FormatBool.gh {C : Ctx} {p_b : Bool} {K : Str → Heap → Prop} {H : Heap} (h : c_internal_strconv_FormatBool C p_b (fun r0 H2 => ∃ H0, Gh C H2 H0 ∧ K r0 H0) H) : c_internal_strconv_FormatBool C p_b K H :=
  Spec.gh (Spec.mono h fun _ H2 ⟨r0, hv, H0, hg, hk⟩ => ⟨H0, hg, r0, hv, hk⟩)
def c_strings_TrimPrefix (C : Ctx) (p_s : Str) (p_prefix : Str) (K : Str → Heap → Prop) (H : Heap) : Prop :=
  Spec Tryd.prog C 48 [sv p_s, sv p_prefix] H (fun v H2 => ∃ (r0 : Str), v = sv r0 ∧ K r0 H2)
theorem c_strings_TrimPrefix.mono {C : Ctx} {p_s : Str} {p_prefix : Str} {K K2 : Str → Heap → Prop} {H : Heap} (h : c_strings_TrimPrefix C p_s p_prefix K H) (hk : ∀ r0 H2, K r0 H2 → K2 r0 H2) : c_strings_TrimPrefix C p_s p_prefix K2 H :=
  Spec.mono h fun _ H2 ⟨r0, hv, h2⟩ => ⟨r0, hv, hk r0 H2 h2⟩
theorem c_strings_TrimPrefix.gh {C : Ctx} {p_s : Str} {p_prefix : Str} {K : Str → Heap → Prop} {H : Heap} (h : c_strings_TrimPrefix C p_s p_prefix (fun r0 H2 => ∃ H0, Gh C H2 H0 ∧ K r0 H0) H) : c_strings_TrimPrefix C p_s p_prefix K H :=
  Spec.gh (Spec.mono h fun _ H2 ⟨r0, hv, H0, hg, hk⟩ => ⟨H0, hg, r0, hv, hk⟩)
def c_strings_Trim (C : Ctx) (p_s : Str) (p_cutset : Str) (K : Str → Heap → Prop) (H : Heap) : Prop :=
  Spec Tryd.prog C 49 [sv p_s, sv p_cutset] H (fun v H2 => ∃ (r0 : Str), v = sv r0 ∧ K r0 H2)
theorem c_strings_Trim.mono {C : Ctx} {p_s : Str} {p_cutset : Str} {K K2 : Str → Heap → Prop} {H : Heap} (h : c_strings_Trim C p_s p_cutset K H) (hk : ∀ r0 H2, K r0 H2 → K2 r0 H2) : c_strings_Trim C p_s p_cutset K2 H :=
  Spec.mono h fun _ H2 ⟨r0, hv, h2⟩ => ⟨r0, hv, hk r0 H2 h2⟩
theorem c_strings_Trim.gh {C : Ctx} {p_s : Str} {p_cutset : Str} {K : Str → Heap → Prop} {H : Heap} (h : c_strings_Trim C p_s p_cutset (fun r0 H2 => ∃ H0, Gh C H2 H0 ∧ K r0 H0) H) : c_strings_Trim C p_s p_cutset K H :=
  Spec.gh (Spec.mono h fun _ H2 ⟨r0, hv, H0, hg, hk⟩ => ⟨H0, hg, r0, hv, hk⟩)
def c_internal_stringslite_Cut (C : Ctx) (p_s : Str) (p_sep : Str) (K : Str → Str → Bool → Heap → Prop) (H : Heap) : Prop :=
  Spec Tryd.prog C 50 [sv p_s, sv p_sep] H (fun v H2 => ∃ (r0 : Str) (r1 : Str) (r2 : Bool), v = .tuple #[sv r0, sv r1, .bool r2] ∧ K r0 r1 r2 H2)
theorem c_internal_stringslite_Cut.mono {C : Ctx} {p_s : Str} {p_sep : Str} {K K2 : Str → Str → Bool → Heap → Prop} {H : Heap} (h : c_internal_stringslite_Cut C p_s p_sep K H) (hk : ∀ r0 r1 r2 H2, K r0 r1 r2 H2 → K2 r0 r1 r2 H2) : c_internal_stringslite_Cut C p_s p_sep K2 H :=
  Spec.mono h fun _ H2 ⟨r0, r1, r2, hv, h2⟩ => ⟨r0, r1, r2, hv, hk r0 r1 r2 H2 h2⟩
theorem c_internal_stringslite_Cut.gh {C : Ctx} {p_s : Str} {p_sep : Str} {K : Str → Str → Bool → Heap → Prop} {H : Heap} (h : c_internal_stringslite_Cut C p_s p_sep (fun r0 r1 r2 H2 => ∃ H0, Gh C H2 H0 ∧ K r0 r1 r2 H0) H) : c_internal_stringslite_Cut C p_s p_sep K H :=
  Spec.gh (Spec.mono h fun _ H2 ⟨r0, r1, r2, hv, H0, hg, hk⟩ => ⟨H0, hg, r0, r1, r2, hv, hk⟩)
def c_internal_stringslite_TrimPrefix (C : Ctx) (p_s : Str) (p_prefix : Str) (K : Str → Heap → Prop) (H : Heap) : Prop :=
  Spec Tryd.prog C 59 [sv p_s, sv p_prefix] H (fun v H2 => ∃ (r0 : Str), v = sv r0 ∧ K r0 H2)
theorem c_internal_stringslite_TrimPrefix.mono {C : Ctx} {p_s : Str} {p_prefix : Str} {K K2 : Str → Heap → Prop} {H : Heap} (h : c_internal_stringslite_TrimPrefix C p_s p_prefix K H) (hk : ∀ r0 H2, K r0 H2 → K2 r0 H2) : c_internal_stringslite_TrimPrefix C p_s p_prefix K2 H :=
  Spec.mono h fun _ H2 ⟨r0, hv, h2⟩ => ⟨r0, hv, hk r0 H2 h2⟩
theorem c_internal_stringslite_TrimPrefix.gh {C : Ctx} {p_s : Str} {p_prefix : Str} {K : Str → Heap → Prop} {H : Heap} (h : c_internal_stringslite_TrimPrefix C p_s p_prefix (fun r0 H2 => ∃ H0, Gh C H2 H0 ∧ K r0 H0) H) : c_internal_stringslite_TrimPrefix C p_s p_prefix K H :=
  Spec.gh (Spec.mono h fun _ H2 ⟨r0, hv, H0, hg, hk⟩ => ⟨H0, hg, r0, hv, hk⟩)
def c_strings_trimLeftByte (C : Ctx) (p_s : Str) (p_c : Int) (K : Str → Heap → Prop) (H : Heap) : Prop :=
  Spec Tryd.prog C 60 [sv p_s, .int .u8 p_c] H (fun v H2 => ∃ (r0 : Str), v = sv r0 ∧ K r0 H2)
theorem c_strings_trimLeftByte.mono {C : Ctx} {p_s : Str} {p_c : Int} {K K2 : Str → Heap → Prop} {H : Heap} (h : c_strings_trimLeftByte C p_s p_c K H) (hk : ∀ r0 H2, K r0 H2 → K2 r0 H2) : c_strings_trimLeftByte C p_s p_c K2 H :=
  Spec.mono h fun _ H2 ⟨r0, hv, h2⟩ => ⟨r0, hv, hk r0 H2 h2⟩
theorem c_strings_trimLeftByte.gh {C : Ctx} {p_s : Str} {p_c : Int} {K : Str → Heap → Prop} {H : Heap} (h : c_strings_trimLeftByte C p_s p_c (fun r0 H2 => ∃ H0, Gh C H2 H0 ∧ K r0 H0) H) : c_strings_trimLeftByte C p_s p_c K H :=
  Spec.gh (Spec.mono h fun _ H2 ⟨r0, hv, H0, hg, hk⟩ => ⟨H0, hg, r0, hv, hk⟩)
def c_strings_trimRightByte (C : Ctx) (p_s : Str) (p_c : Int) (K : Str → Heap → Prop) (H : Heap) : Prop :=
  Spec Tryd.prog C 61 [sv p_s, .int .u8 p_c] H (fun v H2 => ∃ (r0 : Str), v = sv r0 ∧ K r0 H2)
theorem c_strings_trimRightByte.mono {C : Ctx} {p_s : Str} {p_c : Int} {K K2 : Str → Heap → Prop} {H : Heap} (h : c_strings_trimRightByte C p_s p_c K H) (hk : ∀ r0 H2, K r0 H2 → K2 r0 H2) : c_strings_trimRightByte C p_s p_c K2 H :=
  Spec.mono h fun _ H2 ⟨r0, hv, h2⟩ => ⟨r0, hv, hk r0 H2 h2⟩
theorem c_strings_trimRightByte.gh {C : Ctx} {p_s : Str} {p_c : Int} {K : Str → Heap → Prop} {H : Heap} (h : c_strings_trimRightByte C p_s p_c (fun r0 H2 => ∃ H0, Gh C H2 H0 ∧ K r0 H0) H) : c_strings_trimRightByte C p_s p_c K H :=
  Spec.gh (Spec.mono h fun _ H2 ⟨r0, hv, H0, hg, hk⟩ => ⟨H0, hg, r0, hv, hk⟩)
def c_strings_makeASCIISet (C : Ctx) (p_chars : Str) (K : List Value → Bool → Heap → Prop) (H : Heap) : Prop :=
  Spec Tryd.prog C 62 [sv p_chars] H (fun v H2 => ∃ (r0 : List Value) (r1 : Bool), v = .tuple #[.agg (List.toArray r0), .bool r1] ∧ K r0 r1 H2)
theorem c_strings_makeASCIISet.mono {C : Ctx} {p_chars : Str} {K K2 : List Value → Bool → Heap → Prop} {H : Heap} (h : c_strings_makeASCIISet C p_chars K H) (hk : ∀ r0 r1 H2, K r0 r1 H2 → K2 r0 r1 H2) : c_strings_makeASCIISet C p_chars K2 H :=
  Spec.mono h fun _ H2 ⟨r0, r1, hv, h2⟩ => ⟨r0, r1, hv, hk r0 r1 H2 h2⟩
theorem c_strings_makeASCIISet.gh {C : Ctx} {p_chars : Str} {K : List Value → Bool → Heap → Prop} {H : Heap} (h : c_strings_makeASCIISet C p_chars (fun r0 r1 H2 => ∃ H0, Gh C H2 H0 ∧ K r0 r1 H0) H) : c_strings_makeASCIISet C p_chars K H :=
  Spec.gh (Spec.mono h fun _ H2 ⟨r0, r1, hv, H0, hg, hk⟩ => ⟨H0, hg, r0, r1, hv, hk⟩)
def c_strings_trimLeftASCII (C : Ctx) (p_s : Str) (p_as : Option (Nat × Nat)) (K : Str → Heap → Prop) (H : Heap) : Prop :=
  Spec Tryd.prog C 63 [sv p_s, pv p_as] H (fun v H2 => ∃ (r0 : Str), v = sv r0 ∧ K r0 H2)
theorem c_strings_trimLeftASCII.mono {C : Ctx} {p_s : Str} {p_as : Option (Nat × Nat)} {K K2 : Str → Heap → Prop} {H : Heap} (h : c_strings_trimLeftASCII C p_s p_as K H) (hk : ∀ r0 H2, K r0 H2 → K2 r0 H2) : c_strings_trimLeftASCII C p_s p_as K2 H :=
  Spec.mono h fun _ H2 ⟨r0, hv, h2⟩ => ⟨r0, hv, hk r0 H2 h2⟩
theorem c_strings_trimLeftASCII.gh {C : Ctx} {p_s : Str} {p_as : Option (Nat × Nat)} {K : Str → Heap → Prop} {H : Heap} (h : c_strings_trimLeftASCII C p_s p_as (fun r0 H2 => ∃ H0, Gh C H2 H0 ∧ K r0 H0) H) : c_strings_trimLeftASCII C p_s p_as K H :=
  Spec.gh (Spec.mono h fun _ H2 ⟨r0, hv, H0, hg, hk⟩ => ⟨H0, hg, r0, hv, hk⟩)
def c_strings_trimRightASCII (C : Ctx) (p_s : Str) (p_as : Option (Nat × Nat)) (K : Str → Heap → Prop) (H : Heap) : Prop :=
  Spec Tryd.prog C 64 [sv p_s, pv p_as] H (fun v H2 => ∃ (r0 : Str), v = sv r0 ∧ K r0 H2)
theorem c_strings_trimRightASCII.mono {C : Ctx} {p_s : Str} {p_as : Option (Nat × Nat)} {K K2 : Str → Heap → Prop} {H : Heap} (h : c_strings_trimRightASCII C p_s p_as K H) (hk : ∀ r0 H2, K r0 H2 → K2 r0 H2) : c_strings_trimRightASCII C p_s p_as K2 H :=
  Spec.mono h fun _ H2 ⟨r0, hv, h2⟩ => ⟨r0, hv, hk r0 H2 h2⟩
theorem c_strings_trimRightASCII.gh {C : Ctx} {p_s : Str} {p_as : Option (Nat × Nat)} {K : Str → Heap → Prop} {H : Heap} (h : c_strings_trimRightASCII C p_s p_as (fun r0 H2 => ∃ H0, Gh C H2 H0 ∧ K r0 H0) H) : c_strings_trimRightASCII C p_s p_as K H :=
  Spec.gh (Spec.mono h fun _ H2 ⟨r0, hv, H0, hg, hk⟩ => ⟨H0, hg, r0, hv, hk⟩)
def c_strings_trimLeftUnicode (C : Ctx) (p_s : Str) (p_cutset : Str) (K : Str → Heap → Prop) (H : Heap) : Prop :=
  Spec Tryd.prog C 65 [sv p_s, sv p_cutset] H (fun v H2 => ∃ (r0 : Str), v = sv r0 ∧ K r0 H2)
theorem c_strings_trimLeftUnicode.mono {C : Ctx} {p_s : Str} {p_cutset : Str} {K K2 : Str → Heap → Prop} {H : Heap} (h : c_strings_trimLeftUnicode C p_s p_cutset K H) (hk : ∀ r0 H2, K r0 H2 → K2 r0 H2) : c_strings_trimLeftUnicode C p_s p_cutset K2 H :=
  Spec.mono h fun _ H2 ⟨r0, hv, h2⟩ => ⟨r0, hv, hk r0 H2 h2⟩
theorem c_strings_trimLeftUnicode.gh {C : Ctx} {p_s : Str} {p_cutset : Str} {K : Str → Heap → Prop} {H : Heap} (h : c_strings_trimLeftUnicode C p_s p_cutset (fun r0 H2 => ∃ H0, Gh C H2 H0 ∧ K r0 H0) H) : c_strings_trimLeftUnicode C p_s p_cutset K H :=
  Spec.gh (Spec.mono h fun _ H2 ⟨r0, hv, H0, hg, hk⟩ => ⟨H0, hg, r0, hv, hk⟩)
def c_strings_trimRightUnicode (C : Ctx) (p_s : Str) (p_cutset : Str) (K : Str → Heap → Prop) (H : Heap) : Prop :=
  Spec Tryd.prog C 66 [sv p_s, sv p_cutset] H (fun v H2 => ∃ (r0 : Str), v = sv r0 ∧ K r0 H2)
theorem c_strings_trimRightUnicode.mono {C : Ctx} {p_s : Str} {p_cutset : Str} {K K2 : Str → Heap → Prop} {H : Heap} (h : c_strings_trimRightUnicode C p_s p_cutset K H) (hk : ∀ r0 H2, K r0 H2 → K2 r0 H2) : c_strings_trimRightUnicode C p_s p_cutset K2 H :=
  Spec.mono h fun _ H2 ⟨r0, hv, h2⟩ => ⟨r0, hv, hk r0 H2 h2⟩
theorem c_strings_trimRightUnicode.gh {C : Ctx} {p_s : Str} {p_cutset : Str} {K : Str → Heap → Prop} {H : Heap} (h : c_strings_trimRightUnicode C p_s p_cutset (fun r0 H2 => ∃ H0, Gh C H2 H0 ∧ K r0 H0) H) : c_strings_trimRightUnicode C p_s p_cutset K H :=
  Spec.gh (Spec.mono h fun _ H2 ⟨r0, hv, H0, hg, hk⟩ => ⟨H0, hg, r0, hv, hk⟩)
def c_internal_stringslite_Index (C : Ctx) (p_s : Str) (p_substr : Str) (K : Int → Heap → Prop) (H : Heap) : Prop :=
  Spec Tryd.prog C 67 [sv p_s, sv p_substr] H (fun v H2 => ∃ (r0 : Int), v = .int .i64 r0 ∧ K r0 H2)
theorem c_internal_stringslite_Index.mono {C : Ctx} {p_s : Str} {p_substr : Str} {K K2 : Int → Heap → Prop} {H : Heap} (h : c_internal_stringslite_Index C p_s p_substr K H) (hk : ∀ r0 H2, K r0 H2 → K2 r0 H2) : c_internal_stringslite_Index C p_s p_substr K2 H :=
  Spec.mono h fun _ H2 ⟨r0, hv, h2⟩ => ⟨r0, hv, hk r0 H2 h2⟩
theorem c_internal_stringslite_Index.gh {C : Ctx} {p_s : Str} {p_substr : Str} {K : Int → Heap → Prop} {H : Heap} (h : c_internal_stringslite_Index C p_s p_substr (fun r0 H2 => ∃ H0, Gh C H2 H0 ∧ K r0 H0) H) : c_internal_stringslite_Index C p_s p_substr K H :=
  Spec.gh (Spec.mono h fun _ H2 ⟨r0, hv, H0, hg, hk⟩ => ⟨H0, hg, r0, hv, hk⟩)
def c_internal_stringslite_HasPrefix (C : Ctx) (p_s : Str) (p_prefix : Str) (K : Bool → Heap → Prop) (H : Heap) : Prop :=
  Spec Tryd.prog C 74 [sv p_s, sv p_prefix] H (fun v H2 => ∃ (r0 : Bool), v = .bool r0 ∧ K r0 H2)
theorem c_internal_stringslite_HasPrefix.mono {C : Ctx} {p_s : Str} {p_prefix : Str} {K K2 : Bool → Heap → Prop} {H : Heap} (h : c_internal_stringslite_HasPrefix C p_s p_prefix K H) (hk : ∀ r0 H2, K r0 H2 → K2 r0 H2) : c_internal_stringslite_HasPrefix C p_s p_prefix K2 H :=
  Spec.mono h fun _ H2 ⟨r0, hv, h2⟩ => ⟨r0, hv, hk r0 H2 h2⟩
theorem c_internal_stringslite_HasPrefix.gh {C : Ctx} {p_s : Str} {p_prefix : Str} {K : Bool → Heap → Prop} {H : Heap} (h : c_internal_stringslite_HasPrefix C p_s p_prefix (fun r0 H2 => ∃ H0, Gh C H2 H0 ∧ K r0 H0) H) : c_internal_stringslite_HasPrefix C p_s p_prefix K H :=
  Spec.gh (Spec.mono h fun _ H2 ⟨r0, hv, H0, hg, hk⟩ => ⟨H0, hg, r0, hv, hk⟩)
def c_strings_asciiSet_contains (C : Ctx) (p_as : Option (Nat × Nat)) (p_c : Int) (K : Bool → Heap → Prop) (H : Heap) : Prop :=
  Spec Tryd.prog C 75 [pv p_as, .int .u8 p_c] H (fun v H2 => ∃ (r0 : Bool), v = .bool r0 ∧ K r0 H2)
theorem c_strings_asciiSet_contains.mono {C : Ctx} {p_as : Option (Nat × Nat)} {p_c : Int} {K K2 : Bool → Heap → Prop} {H : Heap} (h : c_strings_asciiSet_contains C p_as p_c K H) (hk : ∀ r0 H2, K r0 H2 → K2 r0 H2) : c_strings_asciiSet_contains C p_as p_c K2 H :=
  Spec.mono h fun _ H2 ⟨r0, hv, h2⟩ => ⟨r0, hv, hk r0 H2 h2⟩
theorem c_strings_asciiSet_contains.gh {C : Ctx} {p_as : Option (Nat × Nat)} {p_c : Int} {K : Bool → Heap → Prop} {H : Heap} (h : c_strings_asciiSet_contains C p_as p_c (fun r0 H2 => ∃ H0, Gh C H2 H0 ∧ K r0 H0) H) : c_strings_asciiSet_contains C p_as p_c K H :=
  Spec.gh (Spec.mono h fun _ H2 ⟨r0, hv, H0, hg, hk⟩ => ⟨H0, hg, r0, hv, hk⟩)
def c_internal_stringslite_IndexByte (C : Ctx) (p_s : Str) (p_c : Int) (K : Int → Heap → Prop) (H : Heap) : Prop :=
  Spec Tryd.prog C 79 [sv p_s, .int .u8 p_c] H (fun v H2 => ∃ (r0 : Int), v = .int .i64 r0 ∧ K r0 H2)
theorem c_internal_stringslite_IndexByte.mono {C : Ctx} {p_s : Str} {p_c : Int} {K K2 : Int → Heap → Prop} {H : Heap} (h : c_internal_stringslite_IndexByte C p_s p_c K H) (hk : ∀ r0 H2, K r0 H2 → K2 r0 H2) : c_internal_stringslite_IndexByte C p_s p_c K2 H :=
  Spec.mono h fun _ H2 ⟨r0, hv, h2⟩ => ⟨r0, hv, hk r0 H2 h2⟩
theorem c_internal_stringslite_IndexByte.gh {C : Ctx} {p_s : Str} {p_c : Int} {K : Int → Heap → Prop} {H : Heap} (h : c_internal_stringslite_IndexByte C p_s p_c (fun r0 H2 => ∃ H0, Gh C H2 H0 ∧ K r0 H0) H) : c_internal_stringslite_IndexByte C p_s p_c K H :=
  Spec.gh (Spec.mono h fun _ H2 ⟨r0, hv, H0, hg, hk⟩ => ⟨H0, hg, r0, hv, hk⟩)
def c_internal_bytealg_Cutover (C : Ctx) (p_n : Int) (K : Int → Heap → Prop) (H : Heap) : Prop :=
  Spec Tryd.prog C 81 [.int .i64 p_n] H (fun v H2 => ∃ (r0 : Int), v = .int .i64 r0 ∧ K r0 H2)
theorem c_internal_bytealg_Cutover.mono {C : Ctx} {p_n : Int} {K K2 : Int → Heap → Prop} {H : Heap} (h : c_internal_bytealg_Cutover C p_n K H) (hk : ∀ r0 H2, K r0 H2 → K2 r0 H2) : c_internal_bytealg_Cutover C p_n K2 H :=
  Spec.mono h fun _ H2 ⟨r0, hv, h2⟩ => ⟨r0, hv, hk r0 H2 h2⟩
theorem c_internal_bytealg_Cutover.gh {C : Ctx} {p_n : Int} {K : Int → Heap → Prop} {H : Heap} (h : c_internal_bytealg_Cutover C p_n (fun r0 H2 => ∃ H0, Gh C H2 H0 ∧ K r0 H0) H) : c_internal_bytealg_Cutover C p_n K H :=
  Spec.gh (Spec.mono h fun _ H2 ⟨r0, hv, H0, hg, hk⟩ => ⟨H0, hg, r0, hv, hk⟩)
def c_internal_bytealg_IndexRabinKarp_string (C : Ctx) (p_s : Str) (p_sep : Str) (K : Int → Heap → Prop) (H : Heap) : Prop :=
  Spec Tryd.prog C 82 [sv p_s, sv p_sep] H (fun v H2 => ∃ (r0 : Int), v = .int .i64 r0 ∧ K r0 H2)
theorem c_internal_bytealg_IndexRabinKarp_string.mono {C : Ctx} {p_s : Str} {p_sep : Str} {K K2 : Int → Heap → Prop} {H : Heap} (h : c_internal_bytealg_IndexRabinKarp_string C p_s p_sep K H) (hk : ∀ r0 H2, K r0 H2 → K2 r0 H2) : c_internal_bytealg_IndexRabinKarp_string C p_s p_sep K2 H :=
  Spec.mono h fun _ H2 ⟨r0, hv, h2⟩ => ⟨r0, hv, hk r0 H2 h2⟩
theorem c_internal_bytealg_IndexRabinKarp_string.gh {C : Ctx} {p_s : Str} {p_sep : Str} {K : Int → Heap → Prop} {H : Heap} (h : c_internal_bytealg_IndexRabinKarp_string C p_s p_sep (fun r0 H2 => ∃ H0, Gh C H2 H0 ∧ K r0 H0) H) : c_internal_bytealg_IndexRabinKarp_string C p_s p_sep K H :=
  Spec.gh (Spec.mono h fun _ H2 ⟨r0, hv, H0, hg, hk⟩ => ⟨H0, hg, r0, hv, hk⟩)
def sh_law04_InternOne (C : Ctx) (p_l : Sl) (K : Bool → Heap → Prop) (H : Heap) : Prop :=
  lp (α := Int × Int) (0, 0) H (fun x1 J2 H3 =>
 ift ((decide ((x1.2 : Int) < (Sl.len p_l : Int))) && (decide ((x1.1 : Int) < 600)))
 (ixa p_l x1.2 fun p6 =>
 ldT H3 T_api_Value.c (p6.1, p6.2 + (x1.2 : Int).toNat * 4) fun x11 =>
 c_law04_weight C x11 600 (fun r13 H14 =>
 J2 ((w .i64 (x1.1 + r13)), (w .i64 (x1.2 + 1))) H14) H3)
 (jn (α := Bool) (fun b15 H21 =>
 ift b15
 (c_law04_awake C (fun r23 H24 =>
 K r23 H24) H21)
 (c_intern_New C (fun r25 H26 =>
 lp (α := Sl × Sl × Int) (Sl.nil, Sl.nil, 0) H26 (fun x27 J28 H29 =>
 ift (decide ((x27.2.2 : Int) < (Sl.len p_l : Int)))
 (jn (α := Sl × Sl) (fun x32 H33 =>
 J28 (x32.1, x32.2, (w .i64 (x27.2.2 + 1))) H33)
 (fun J31 => c_intern_Table_Len C r25 (fun r35 H36 =>
 ixa p_l x27.2.2 fun p37 =>
 ldT H36 T_api_Value.c (p37.1, p37.2 + (x27.2.2 : Int).toNat * 4) fun x42 =>
 c_intern_Table_Put C r25 x42 (fun r44 r45 H46 =>
 ixa p_l x27.2.2 fun p47 =>
 ldT H46 T_api_Value.c (p47.1, p47.2 + (x27.2.2 : Int).toNat * 4) fun x52 =>
 c_value_Check C x52 (fun r54 H55 =>
 ift ((r45 : Int) != r54)
 (K false H55)
 (ift ((r45 : Int) != 0)
 (J31 (x27.1, x27.2.1) H55)
 (jn (α := Bool) (fun b59 H70 =>
 jn (α := Bool) (fun b71 H82 =>
 ift b71
 (K false H82)
 (apd ([.int .i64 0]) 8 x27.1 ([.int .i64 r44]) 1 (fun r84 H85 =>
 ixa p_l x27.2.2 fun p86 =>
 ldT H85 T_api_Value.c (p86.1, p86.2 + (x27.2.2 : Int).toNat * 4) fun x91 =>
 apd (T_api_Value.c T_api_Value.zero) 56 x27.2.1 ((T_api_Value.c x91) ++ []) 1 (fun r93 H94 =>
 J31 (r84, r93) H94) H85) H82))
 (fun J72 => ift b59
 (J72 true H70)
 (jn (α := Bool) (fun b75 H81 =>
 J72 b75 H81)
 (fun J76 => ift (decide ((r44 : Int) < r35))
 (c_intern_Table_Len C r25 (fun r79 H80 =>
 J76 ((r79 : Int) != r35) H80) H70)
 (J76 false H70)))))
 (fun J60 => ift ((decide ((r44 : Int) < 0)) || (decide ((r44 : Int) > r35)))
 (J60 true H55)
 (jn (α := Bool) (fun b63 H69 =>
 J60 b63 H69)
 (fun J64 => ift ((r44 : Int) == r35)
 (c_intern_Table_Len C r25 (fun r67 H68 =>
 J64 ((r67 : Int) != (w .i64 (r35 + 1))) H68) H55)
 (J64 false H55))))))) H46) H36) H29))
 (lp (α := Int) 0 H29 (fun x95 J96 H97 =>
 ift (decide ((x95 : Int) < (Sl.len x27.1 : Int)))
 (ixa x27.1 x95 fun p99 =>
 ldI H97 .i64 (p99.1, p99.2 + (x95 : Int).toNat * 1) fun x104 =>
 c_intern_Table_At C r25 x104 (fun r106 r107 H108 =>
 nw (T_api_Value.c T_api_Value.zero) (fun b109 H110 =>
 stT (b109, 0) (T_api_Value.c r106) (fun H111 =>
 ixa x27.2.1 x95 fun p112 =>
 ldT H111 T_api_Value.c (p112.1, p112.2 + (x95 : Int).toNat * 4) fun x117 =>
 c_intern_Table_Find C r25 x117 (fun r119 r120 H121 =>
 jn (α := Bool) (fun x123 H124 =>
 ift x123
 (K false H124)
 (lp (α := Int) 0 H124 (fun x151 J152 H153 =>
 ift (decide ((x151 : Int) < x95))
 (dr H153 fun Hs155 =>
 ixa x27.1 x95 fun p157 =>
 ldI Hs155 .i64 (p157.1, p157.2 + (x95 : Int).toNat * 1) fun x162 =>
 ixa x27.1 x151 fun p164 =>
 ldI Hs155 .i64 (p164.1, p164.2 + (x151 : Int).toNat * 1) fun x169 =>
 ixa x27.2.1 x95 fun p171 =>
 ldT Hs155 T_api_Value.c (p171.1, p171.2 + (x95 : Int).toNat * 4) fun x176 =>
 ixa x27.2.1 x151 fun p178 =>
 ldT Hs155 T_api_Value.c (p178.1, p178.2 + (x151 : Int).toNat * 4) fun x183 =>
 c_ref02_Same C x176 x183 (fun r186 H187 =>
 Heap.le Hs155 H187 ∧
 ift (!(((x162 : Int) == x169) == r186))
 (K false H187)
 (J152 (w .i64 (x151 + 1)) H187)) H153)
 (J96 (w .i64 (x95 + 1)) H153))))
 (fun J122 => dr H121 fun Hs126 =>
 ift ((r107 : Int) != 0)
 (J122 true H121)
 (ldT Hs126 T_api_Value.c (b109, 0) fun x129 =>
 ixa x27.2.1 x95 fun p131 =>
 ldT Hs126 T_api_Value.c (p131.1, p131.2 + (x95 : Int).toNat * 4) fun x136 =>
 c_ref02_Same C x129 x136 (fun r139 H140 =>
 Heap.le Hs126 H140 ∧
 ift (!r139)
 (J122 true H140)
 (ift (!r120)
 (J122 true H140)
 (ixa x27.1 x95 fun p143 =>
 ldI Hs126 .i64 (p143.1, p143.2 + (x95 : Int).toNat * 1) fun x148 =>
 J122 ((r119 : Int) != x148) H140))) H121))) H111) H110) H108) H97)
 (c_intern_Table_Row C r25 x27.1 (fun r189 r190 H191 =>
 jn (α := Bool) (fun b192 H198 =>
 K b192 H198)
 (fun J193 => ift ((r190 : Int) == 0)
 (c_ref02_SameRow C r189 x27.2.1 (fun r196 H197 =>
 J193 r196 H197) H191)
 (J193 false H191))) H97))))) H21))
 (fun J16 => ift (decide ((x1.1 : Int) ≥ 600))
 (J16 true H3)
 (c_law04_awake C (fun r19 H20 =>
 J16 (!r19) H20) H3))))

theorem ad_law04_InternOne (C : Ctx) (p_l : Sl) (K : Bool → Heap → Prop) (H : Heap) (h : sh_law04_InternOne C p_l K H) : c_law04_InternOne C p_l K H := by
  refine Spec.enter Tryd.func4 rfl Tryd.ntmps4 rfl ?_
  refine GC.sub [(0, slv p_l)] ⟨rfl, trivial⟩ ?_
  refine GC.seq ?_
  refine GC.region ?_
  refine GL.val trivial rfl (OV.assign (v := .bool false) rfl) ?_
  refine GL.nil ?_
  refine GC.seq ?_
  refine GC.region ?_
  refine GL.val trivial rfl (OV.assign (v := .int .i64 0) rfl) ?_
  refine GL.nil ?_
  refine GC.seq ?_
  refine GC.seq ?_
  refine GC.region ?_
  refine GL.val trivial rfl (OV.assign (v := .int .i64 0) rfl) ?_
  refine GL.nil ?_
  refine GC.block ?_
  refine GC.loop (α := Int × Int) h (fun x1 => [(3, .int .i64 x1.1), (4, .int .i64 x1.2), (0, slv p_l)]) ⟨rfl, rfl, rfl, trivial⟩ ?_
  intro x1 H3 J2 h
  refine GC.seq ?_
  refine GC.seq ?_
  refine GC.region ?_
  refine GL.val trivial rfl (OV.move (v := .int .i64 x1.2) rfl) ?_
  refine GL.val trivial rfl (OV.move (v := slv p_l) rfl) ?_
  refine GL.val trivial rfl (OV.lenSl (s := p_l) rfl rfl) ?_
  refine GL.val trivial rfl (OV.ibin (v := .bool (decide ((x1.2 : Int) < (Sl.len p_l : Int)))) rfl rfl rfl) ?_
  refine GL.val trivial rfl (OV.move (v := .bool (decide ((x1.2 : Int) < (Sl.len p_l : Int)))) rfl) ?_
  refine GL.cut0 3 [(27, .bool ((decide ((x1.2 : Int) < (Sl.len p_l : Int))) && (decide ((x1.1 : Int) < 600)))), (0, slv p_l), (3, .int .i64 x1.1), (4, .int .i64 x1.2)] ?_ ?_
  · rcases Bool.eq_false_or_eq_true (decide ((x1.2 : Int) < (Sl.len p_l : Int))) with hc4 | hc4
    · skip
      refine GL.val ⟨_, _, rfl, rfl, hc4⟩ rfl (OV.move (v := .int .i64 x1.1) rfl) ?_
      refine GL.val ⟨_, _, rfl, rfl, hc4⟩ rfl (OV.ibin (v := .bool (decide ((x1.1 : Int) < 600))) rfl rfl rfl) ?_
      refine GL.val trivial rfl (OV.pickT (b := decide ((x1.2 : Int) < (Sl.len p_l : Int))) (v := .bool (decide ((x1.1 : Int) < 600))) rfl hc4 rfl) ?_
      exact GL.jump0 (fun _ _ h => h) () rfl ⟨(by rw [hc4]; rfl), rfl, rfl, rfl, trivial⟩
    · skip
      refine GL.skip ⟨_, rfl, .inl ⟨_, rfl, hc4⟩⟩ rfl ?_
      refine GL.skip ⟨_, rfl, .inl ⟨_, rfl, hc4⟩⟩ rfl ?_
      refine GL.val trivial rfl (OV.pickF (b := decide ((x1.2 : Int) < (Sl.len p_l : Int))) (v := .bool false) rfl hc4 rfl) ?_
      exact GL.jump0 (fun _ _ h => h) () rfl ⟨(by rw [hc4]; rfl), rfl, rfl, rfl, trivial⟩
  refine GL.nil ?_
  refine GC.cond (b := (decide ((x1.2 : Int) < (Sl.len p_l : Int))) && (decide ((x1.1 : Int) < 600))) rfl (fun hc5 => ?_) (fun hc5 => ?_)
  · replace h := And.left h hc5
    refine GC.skip ?_
    refine GC.seq ?_
    refine GC.block ?_
    refine GC.region ?_
    refine GL.val trivial rfl (OV.move (v := .int .i64 x1.1) rfl) ?_
    refine GL.val trivial rfl (OV.move (v := slv p_l) rfl) ?_
    refine GL.val trivial rfl (OV.move (v := .int .i64 x1.2) rfl) ?_
    obtain ⟨p6, ha7, hb8, hc9, hd10, h⟩ := h
    refine GL.val trivial rfl (OV.indexAddr (s := p_l) rfl rfl rfl rfl ha7 hb8 hc9 hd10) ?_
    obtain ⟨x11, hr12, h⟩ := h
    refine GL.val trivial rfl (OV.loadT (p := (p6.1, p6.2 + (x1.2 : Int).toNat * 4)) (cs := T_api_Value.c x11) rfl rfl rfl hr12) ?_
    refine GL.call h trivial rfl ok_law04_weight (vs := [.agg (T_api_Value.c x11).toArray, .int .i64 600]) rfl ?_
    rintro _ H14 ⟨r13, rfl, h⟩
    refine GL.val trivial rfl (OV.ibin (v := .int .i64 (w .i64 (x1.1 + r13))) rfl rfl rfl) ?_
    refine GL.val trivial rfl (OV.assign (v := .int .i64 (w .i64 (x1.1 + r13))) rfl) ?_
    refine GL.nil_to (fun _ _ h => h) ?_
    refine GC.region ?_
    refine GL.val trivial rfl (OV.move (v := .int .i64 x1.2) rfl) ?_
    refine GL.val trivial rfl (OV.ibin (v := .int .i64 (w .i64 (x1.2 + 1))) rfl rfl rfl) ?_
    refine GL.val trivial rfl (OV.assign (v := .int .i64 (w .i64 (x1.2 + 1))) rfl) ?_
    exact GL.jump (fun _ _ h => h) ((w .i64 (x1.1 + r13)), (w .i64 (x1.2 + 1))) h ⟨rfl, rfl, rfl, trivial⟩
  · replace h := And.right h hc5
    refine GC.exit_to (fun _ _ h => h) ?_
    refine GC.seq ?_
    refine GC.seq ?_
    refine GC.region ?_
    refine GL.val trivial rfl (OV.move (v := .int .i64 x1.1) rfl) ?_
    refine GL.val trivial rfl (OV.ibin (v := .bool (decide ((x1.1 : Int) ≥ 600))) rfl rfl rfl) ?_
    refine GL.val trivial rfl (OV.move (v := .bool (decide ((x1.1 : Int) ≥ 600))) rfl) ?_
    obtain ⟨J16, h, hR17⟩ := h
    refine GL.cut (α := Bool) 3 J16 (fun b15 => [(42, .bool b15), (0, slv p_l)]) ?_ ?_
    · rcases Bool.eq_false_or_eq_true (decide ((x1.1 : Int) ≥ 600)) with hc18 | hc18
      · skip
        replace h := And.left h hc18
        refine GL.skip ⟨_, rfl, .inl ⟨_, rfl, hc18⟩⟩ rfl ?_
        refine GL.skip ⟨_, rfl, .inl ⟨_, rfl, hc18⟩⟩ rfl ?_
        refine GL.val trivial rfl (OV.pickT (b := decide ((x1.1 : Int) ≥ 600)) (v := .bool true) rfl hc18 rfl) ?_
        exact GL.jump (fun _ _ h => h) true h ⟨rfl, rfl, trivial⟩
      · skip
        replace h := And.right h hc18
        refine GL.call h ⟨_, _, rfl, rfl, hc18⟩ rfl ok_law04_awake (vs := []) rfl ?_
        rintro _ H20 ⟨r19, rfl, h⟩
        refine GL.val ⟨_, _, rfl, rfl, hc18⟩ rfl (OV.not rfl) ?_
        refine GL.val trivial rfl (OV.pickF (b := decide ((x1.1 : Int) ≥ 600)) (v := .bool (!r19)) rfl hc18 rfl) ?_
        exact GL.jump (fun _ _ h => h) (!r19) h ⟨rfl, rfl, trivial⟩
    intro b15 H21 h
    replace h := hR17 b15 H21 h
    refine GL.nil ?_
    refine GC.cond (b := b15) rfl (fun hc22 => ?_) (fun hc22 => ?_)
    · replace h := And.left h hc22
      refine GC.seq ?_
      refine GC.region ?_
      refine GL.call h trivial rfl ok_law04_awake (vs := []) rfl ?_
      rintro _ H24 ⟨r23, rfl, h⟩
      refine GL.val trivial rfl (OV.assign (v := .bool r23) rfl) ?_
      refine GL.nil ?_
      exact GC.ret (fun _ _ hf hs => post_tmp1 rfl rfl hf hs ⟨r23, rfl, h⟩)
    · replace h := And.right h hc22
      refine GC.skip ?_
      refine GC.seq ?_
      refine GC.region ?_
      refine GL.call h trivial rfl ok_intern_New (vs := []) rfl ?_
      rintro _ H26 ⟨r25, rfl, h⟩
      refine GL.val trivial rfl (OV.assign (v := pv r25) rfl) ?_
      refine GL.nil ?_
      refine GC.seq ?_
      refine GC.region ?_
      refine GL.val trivial rfl (OV.assign (v := slv Sl.nil) rfl) ?_
      refine GL.nil ?_
      refine GC.seq ?_
      refine GC.region ?_
      refine GL.val trivial rfl (OV.assign (v := slv Sl.nil) rfl) ?_
      refine GL.nil ?_
      refine GC.seq ?_
      refine GC.seq ?_
      refine GC.region ?_
      refine GL.val trivial rfl (OV.assign (v := .int .i64 0) rfl) ?_
      refine GL.nil ?_
      refine GC.block ?_
      refine GC.loop (α := Sl × Sl × Int) h (fun x27 => [(6, slv x27.1), (7, slv x27.2.1), (8, .int .i64 x27.2.2), (0, slv p_l), (5, pv r25)]) ⟨rfl, rfl, rfl, rfl, rfl, trivial⟩ ?_
      intro x27 H29 J28 h
      refine GC.seq ?_
      refine GC.seq ?_
      refine GC.region ?_
      refine GL.val trivial rfl (OV.move (v := .int .i64 x27.2.2) rfl) ?_
      refine GL.val trivial rfl (OV.move (v := slv p_l) rfl) ?_
      refine GL.val trivial rfl (OV.lenSl (s := p_l) rfl rfl) ?_
      refine GL.val trivial rfl (OV.ibin (v := .bool (decide ((x27.2.2 : Int) < (Sl.len p_l : Int)))) rfl rfl rfl) ?_
      refine GL.nil ?_
      refine GC.cond (b := decide ((x27.2.2 : Int) < (Sl.len p_l : Int))) rfl (fun hc30 => ?_) (fun hc30 => ?_)
      · replace h := And.left h hc30
        refine GC.skip ?_
        obtain ⟨J31, h, hR34⟩ := h
        refine GC.join (α := Sl × Sl) J31 (fun x32 => [(6, slv x32.1), (7, slv x32.2), (0, slv p_l), (5, pv r25), (8, .int .i64 x27.2.2)]) ?_ ?_
        · skip
          refine GC.block ?_
          refine GC.seq ?_
          refine GC.region ?_
          refine GL.val trivial rfl (OV.move (v := pv r25) rfl) ?_
          refine GL.call h trivial rfl ok_intern_Table_Len (vs := [pv r25]) rfl ?_
          rintro _ H36 ⟨r35, rfl, h⟩
          refine GL.val trivial rfl (OV.assign (v := .int .i64 r35) rfl) ?_
          refine GL.nil ?_
          refine GC.seq ?_
          refine GC.region ?_
          refine GL.val trivial rfl (OV.move (v := pv r25) rfl) ?_
          refine GL.val trivial rfl (OV.move (v := slv p_l) rfl) ?_
          refine GL.val trivial rfl (OV.move (v := .int .i64 x27.2.2) rfl) ?_
          obtain ⟨p37, ha38, hb39, hc40, hd41, h⟩ := h
          refine GL.val trivial rfl (OV.indexAddr (s := p_l) rfl rfl rfl rfl ha38 hb39 hc40 hd41) ?_
          obtain ⟨x42, hr43, h⟩ := h
          refine GL.val trivial rfl (OV.loadT (p := (p37.1, p37.2 + (x27.2.2 : Int).toNat * 4)) (cs := T_api_Value.c x42) rfl rfl rfl hr43) ?_
          refine GL.call h trivial rfl ok_intern_Table_Put (vs := [pv r25, .agg (T_api_Value.c x42).toArray]) rfl ?_
          rintro _ H46 ⟨r44, r45, rfl, h⟩
          refine GL.val trivial rfl (OV.move (v := .tuple #[.int .i64 r44, .int .i64 r45]) rfl) ?_
          refine GL.val trivial rfl (OV.extract (v := .int .i64 r44) rfl rfl) ?_
          refine GL.val trivial rfl (OV.extract (v := .int .i64 r45) rfl rfl) ?_
          refine GL.val trivial rfl (OV.assign (v := .int .i64 r44) rfl) ?_
          refine GL.val trivial rfl (OV.assign (v := .int .i64 r45) rfl) ?_
          refine GL.nil ?_
          refine GC.seq ?_
          refine GC.seq ?_
          refine GC.region ?_
          refine GL.val trivial rfl (OV.move (v := .int .i64 r45) rfl) ?_
          refine GL.val trivial rfl (OV.move (v := slv p_l) rfl) ?_
          refine GL.val trivial rfl (OV.move (v := .int .i64 x27.2.2) rfl) ?_
          obtain ⟨p47, ha48, hb49, hc50, hd51, h⟩ := h
          refine GL.val trivial rfl (OV.indexAddr (s := p_l) rfl rfl rfl rfl ha48 hb49 hc50 hd51) ?_
          obtain ⟨x52, hr53, h⟩ := h
          refine GL.val trivial rfl (OV.loadT (p := (p47.1, p47.2 + (x27.2.2 : Int).toNat * 4)) (cs := T_api_Value.c x52) rfl rfl rfl hr53) ?_
          refine GL.call h trivial rfl ok_value_Check (vs := [.agg (T_api_Value.c x52).toArray]) rfl ?_
          rintro _ H55 ⟨r54, rfl, h⟩
          refine GL.val trivial rfl (OV.ibin (v := .bool ((r45 : Int) != r54)) rfl rfl rfl) ?_
          refine GL.nil ?_
          refine GC.cond (b := (r45 : Int) != r54) rfl (fun hc56 => ?_) (fun hc56 => ?_)
          · replace h := And.left h hc56
            refine GC.seq ?_
            refine GC.region ?_
            refine GL.val trivial rfl (OV.assign (v := .bool false) rfl) ?_
            refine GL.nil ?_
            exact GC.ret (fun _ _ hf hs => post_tmp1 rfl rfl hf hs ⟨false, rfl, h⟩)
          · replace h := And.right h hc56
            refine GC.skip ?_
            refine GC.seq ?_
            refine GC.seq ?_
            refine GC.region ?_
            refine GL.val trivial rfl (OV.move (v := .int .i64 r45) rfl) ?_
            refine GL.val trivial rfl (OV.ibin (v := .bool ((r45 : Int) != 0)) rfl rfl rfl) ?_
            refine GL.nil ?_
            refine GC.cond (b := (r45 : Int) != 0) rfl (fun hc57 => ?_) (fun hc57 => ?_)
            · replace h := And.left h hc57
              exact GC.exit_jump (fun _ _ h => h) (x27.1, x27.2.1) h ⟨rfl, rfl, rfl, rfl, rfl, trivial⟩
            · replace h := And.right h hc57
              refine GC.skip ?_
              refine GC.seq ?_
              refine GC.seq ?_
              refine GC.region ?_
              refine GL.val trivial rfl (OV.move (v := .int .i64 r44) rfl) ?_
              refine GL.val trivial rfl (OV.ibin (v := .bool (decide ((r44 : Int) < 0))) rfl rfl rfl) ?_
              refine GL.val trivial rfl (OV.move (v := .bool (decide ((r44 : Int) < 0))) rfl) ?_
              refine GL.cut0 4 [(77, .bool ((decide ((r44 : Int) < 0)) || (decide ((r44 : Int) > r35)))), (0, slv p_l), (5, pv r25), (6, slv x27.1), (7, slv x27.2.1), (8, .int .i64 x27.2.2), (9, .int .i64 r35), (10, .int .i64 r44)] ?_ ?_
              · rcases Bool.eq_false_or_eq_true (decide ((r44 : Int) < 0)) with hc58 | hc58
                · skip
                  refine GL.skip ⟨_, rfl, .inl ⟨_, rfl, hc58⟩⟩ rfl ?_
                  refine GL.skip ⟨_, rfl, .inl ⟨_, rfl, hc58⟩⟩ rfl ?_
                  refine GL.skip ⟨_, rfl, .inl ⟨_, rfl, hc58⟩⟩ rfl ?_
                  refine GL.val trivial rfl (OV.pickT (b := decide ((r44 : Int) < 0)) (v := .bool true) rfl hc58 rfl) ?_
                  exact GL.jump0 (fun _ _ h => h) () rfl ⟨(by rw [hc58]; rfl), rfl, rfl, rfl, rfl, rfl, rfl, rfl, trivial⟩
                · skip
                  refine GL.val ⟨_, _, rfl, rfl, hc58⟩ rfl (OV.move (v := .int .i64 r44) rfl) ?_
                  refine GL.val ⟨_, _, rfl, rfl, hc58⟩ rfl (OV.move (v := .int .i64 r35) rfl) ?_
                  refine GL.val ⟨_, _, rfl, rfl, hc58⟩ rfl (OV.ibin (v := .bool (decide ((r44 : Int) > r35))) rfl rfl rfl) ?_
                  refine GL.val trivial rfl (OV.pickF (b := decide ((r44 : Int) < 0)) (v := .bool (decide ((r44 : Int) > r35))) rfl hc58 rfl) ?_
                  exact GL.jump0 (fun _ _ h => h) () rfl ⟨(by rw [hc58]; rfl), rfl, rfl, rfl, rfl, rfl, rfl, rfl, trivial⟩
              refine GL.val trivial rfl (OV.move (v := .bool ((decide ((r44 : Int) < 0)) || (decide ((r44 : Int) > r35)))) rfl) ?_
              obtain ⟨J60, h, hR61⟩ := h
              refine GL.cut (α := Bool) 11 J60 (fun b59 => [(89, .bool b59), (0, slv p_l), (5, pv r25), (6, slv x27.1), (7, slv x27.2.1), (8, .int .i64 x27.2.2), (9, .int .i64 r35), (10, .int .i64 r44)]) ?_ ?_
              · rcases Bool.eq_false_or_eq_true ((decide ((r44 : Int) < 0)) || (decide ((r44 : Int) > r35))) with hc62 | hc62
                · skip
                  replace h := And.left h hc62
                  refine GL.skip ⟨_, rfl, .inl ⟨_, rfl, hc62⟩⟩ rfl ?_
                  refine GL.skip ⟨_, rfl, .inl ⟨_, rfl, hc62⟩⟩ rfl ?_
                  refine GL.skip ⟨_, rfl, .inl ⟨_, rfl, hc62⟩⟩ rfl ?_
                  refine GL.skip ⟨_, rfl, .inl ⟨_, rfl, hc62⟩⟩ rfl ?_
                  refine GL.skip ⟨_, rfl, .inr rfl⟩ rfl ?_
                  refine GL.skip ⟨_, rfl, .inr rfl⟩ rfl ?_
                  refine GL.skip ⟨_, rfl, .inr rfl⟩ rfl ?_
                  refine GL.skip ⟨_, rfl, .inr rfl⟩ rfl ?_
                  refine GL.skip ⟨_, rfl, .inr rfl⟩ rfl ?_
                  refine GL.skip ⟨_, rfl, .inl ⟨_, rfl, hc62⟩⟩ rfl ?_
                  refine GL.val trivial rfl (OV.pickT (b := (decide ((r44 : Int) < 0)) || (decide ((r44 : Int) > r35))) (v := .bool true) rfl hc62 rfl) ?_
                  exact GL.jump (fun _ _ h => h) true h ⟨rfl, rfl, rfl, rfl, rfl, rfl, rfl, rfl, trivial⟩
                · skip
                  replace h := And.right h hc62
                  refine GL.val ⟨_, _, rfl, rfl, hc62⟩ rfl (OV.move (v := .int .i64 r44) rfl) ?_
                  refine GL.val ⟨_, _, rfl, rfl, hc62⟩ rfl (OV.move (v := .int .i64 r35) rfl) ?_
                  refine GL.val ⟨_, _, rfl, rfl, hc62⟩ rfl (OV.ibin (v := .bool ((r44 : Int) == r35)) rfl rfl rfl) ?_
                  refine GL.val ⟨_, _, rfl, rfl, hc62⟩ rfl (OV.move (v := .bool ((r44 : Int) == r35)) rfl) ?_
                  obtain ⟨J64, h, hR65⟩ := h
                  refine GL.cut (α := Bool) 6 J64 (fun b63 => [(88, .bool b63), (0, slv p_l), (5, pv r25), (6, slv x27.1), (7, slv x27.2.1), (8, .int .i64 x27.2.2), (9, .int .i64 r35), (10, .int .i64 r44), (78, .bool ((decide ((r44 : Int) < 0)) || (decide ((r44 : Int) > r35))))]) ?_ ?_
                  · rcases Bool.eq_false_or_eq_true ((r44 : Int) == r35) with hc66 | hc66
                    · skip
                      replace h := And.left h hc66
                      refine GL.val ⟨_, _, rfl, rfl, hc66⟩ rfl (OV.move (v := pv r25) rfl) ?_
                      refine GL.call h ⟨_, _, rfl, rfl, hc66⟩ rfl ok_intern_Table_Len (vs := [pv r25]) rfl ?_
                      rintro _ H68 ⟨r67, rfl, h⟩
                      refine GL.val ⟨_, _, rfl, rfl, hc66⟩ rfl (OV.move (v := .int .i64 r35) rfl) ?_
                      refine GL.val ⟨_, _, rfl, rfl, hc66⟩ rfl (OV.ibin (v := .int .i64 (w .i64 (r35 + 1))) rfl rfl rfl) ?_
                      refine GL.val ⟨_, _, rfl, rfl, hc66⟩ rfl (OV.ibin (v := .bool ((r67 : Int) != (w .i64 (r35 + 1)))) rfl rfl rfl) ?_
                      refine GL.val ⟨_, _, rfl, rfl, hc62⟩ rfl (OV.pickT (b := (r44 : Int) == r35) (v := .bool ((r67 : Int) != (w .i64 (r35 + 1)))) rfl hc66 rfl) ?_
                      exact GL.jump (fun _ _ h => h) ((r67 : Int) != (w .i64 (r35 + 1))) h ⟨rfl, rfl, rfl, rfl, rfl, rfl, rfl, rfl, rfl, trivial⟩
                    · skip
                      replace h := And.right h hc66
                      refine GL.skip ⟨_, rfl, .inl ⟨_, rfl, hc66⟩⟩ rfl ?_
                      refine GL.skip ⟨_, rfl, .inl ⟨_, rfl, hc66⟩⟩ rfl ?_
                      refine GL.skip ⟨_, rfl, .inl ⟨_, rfl, hc66⟩⟩ rfl ?_
                      refine GL.skip ⟨_, rfl, .inl ⟨_, rfl, hc66⟩⟩ rfl ?_
                      refine GL.skip ⟨_, rfl, .inl ⟨_, rfl, hc66⟩⟩ rfl ?_
                      refine GL.val ⟨_, _, rfl, rfl, hc62⟩ rfl (OV.pickF (b := (r44 : Int) == r35) (v := .bool false) rfl hc66 rfl) ?_
                      exact GL.jump (fun _ _ h => h) false h ⟨rfl, rfl, rfl, rfl, rfl, rfl, rfl, rfl, rfl, trivial⟩
                  intro b63 H69 h
                  replace h := hR65 b63 H69 h
                  refine GL.val trivial rfl (OV.pickF (b := (decide ((r44 : Int) < 0)) || (decide ((r44 : Int) > r35))) (v := .bool b63) rfl hc62 rfl) ?_
                  exact GL.jump (fun _ _ h => h) b63 h ⟨rfl, rfl, rfl, rfl, rfl, rfl, rfl, rfl, trivial⟩
              intro b59 H70 h
              replace h := hR61 b59 H70 h
              refine GL.val trivial rfl (OV.move (v := .bool b59) rfl) ?_
              obtain ⟨J72, h, hR73⟩ := h
              refine GL.cut (α := Bool) 10 J72 (fun b71 => [(100, .bool b71), (0, slv p_l), (5, pv r25), (6, slv x27.1), (7, slv x27.2.1), (8, .int .i64 x27.2.2), (10, .int .i64 r44)]) ?_ ?_
              · rcases Bool.eq_false_or_eq_true b59 with hc74 | hc74
                · skip
                  replace h := And.left h hc74
                  refine GL.skip ⟨_, rfl, .inl ⟨_, rfl, hc74⟩⟩ rfl ?_
                  refine GL.skip ⟨_, rfl, .inl ⟨_, rfl, hc74⟩⟩ rfl ?_
                  refine GL.skip ⟨_, rfl, .inl ⟨_, rfl, hc74⟩⟩ rfl ?_
                  refine GL.skip ⟨_, rfl, .inl ⟨_, rfl, hc74⟩⟩ rfl ?_
                  refine GL.skip ⟨_, rfl, .inr rfl⟩ rfl ?_
                  refine GL.skip ⟨_, rfl, .inr rfl⟩ rfl ?_
                  refine GL.skip ⟨_, rfl, .inr rfl⟩ rfl ?_
                  refine GL.skip ⟨_, rfl, .inr rfl⟩ rfl ?_
                  refine GL.skip ⟨_, rfl, .inl ⟨_, rfl, hc74⟩⟩ rfl ?_
                  refine GL.val trivial rfl (OV.pickT (b := b59) (v := .bool true) rfl hc74 rfl) ?_
                  exact GL.jump (fun _ _ h => h) true h ⟨rfl, rfl, rfl, rfl, rfl, rfl, rfl, trivial⟩
                · skip
                  replace h := And.right h hc74
                  refine GL.val ⟨_, _, rfl, rfl, hc74⟩ rfl (OV.move (v := .int .i64 r44) rfl) ?_
                  refine GL.val ⟨_, _, rfl, rfl, hc74⟩ rfl (OV.move (v := .int .i64 r35) rfl) ?_
                  refine GL.val ⟨_, _, rfl, rfl, hc74⟩ rfl (OV.ibin (v := .bool (decide ((r44 : Int) < r35))) rfl rfl rfl) ?_
                  refine GL.val ⟨_, _, rfl, rfl, hc74⟩ rfl (OV.move (v := .bool (decide ((r44 : Int) < r35))) rfl) ?_
                  obtain ⟨J76, h, hR77⟩ := h
                  refine GL.cut (α := Bool) 5 J76 (fun b75 => [(99, .bool b75), (0, slv p_l), (5, pv r25), (6, slv x27.1), (7, slv x27.2.1), (8, .int .i64 x27.2.2), (10, .int .i64 r44), (90, .bool b59)]) ?_ ?_
                  · rcases Bool.eq_false_or_eq_true (decide ((r44 : Int) < r35)) with hc78 | hc78
                    · skip
                      replace h := And.left h hc78
                      refine GL.val ⟨_, _, rfl, rfl, hc78⟩ rfl (OV.move (v := pv r25) rfl) ?_
                      refine GL.call h ⟨_, _, rfl, rfl, hc78⟩ rfl ok_intern_Table_Len (vs := [pv r25]) rfl ?_
                      rintro _ H80 ⟨r79, rfl, h⟩
                      refine GL.val ⟨_, _, rfl, rfl, hc78⟩ rfl (OV.move (v := .int .i64 r35) rfl) ?_
                      refine GL.val ⟨_, _, rfl, rfl, hc78⟩ rfl (OV.ibin (v := .bool ((r79 : Int) != r35)) rfl rfl rfl) ?_
                      refine GL.val ⟨_, _, rfl, rfl, hc74⟩ rfl (OV.pickT (b := decide ((r44 : Int) < r35)) (v := .bool ((r79 : Int) != r35)) rfl hc78 rfl) ?_
                      exact GL.jump (fun _ _ h => h) ((r79 : Int) != r35) h ⟨rfl, rfl, rfl, rfl, rfl, rfl, rfl, rfl, trivial⟩
                    · skip
                      replace h := And.right h hc78
                      refine GL.skip ⟨_, rfl, .inl ⟨_, rfl, hc78⟩⟩ rfl ?_
                      refine GL.skip ⟨_, rfl, .inl ⟨_, rfl, hc78⟩⟩ rfl ?_
                      refine GL.skip ⟨_, rfl, .inl ⟨_, rfl, hc78⟩⟩ rfl ?_
                      refine GL.skip ⟨_, rfl, .inl ⟨_, rfl, hc78⟩⟩ rfl ?_
                      refine GL.val ⟨_, _, rfl, rfl, hc74⟩ rfl (OV.pickF (b := decide ((r44 : Int) < r35)) (v := .bool false) rfl hc78 rfl) ?_
                      exact GL.jump (fun _ _ h => h) false h ⟨rfl, rfl, rfl, rfl, rfl, rfl, rfl, rfl, trivial⟩
                  intro b75 H81 h
                  replace h := hR77 b75 H81 h
                  refine GL.val trivial rfl (OV.pickF (b := b59) (v := .bool b75) rfl hc74 rfl) ?_
                  exact GL.jump (fun _ _ h => h) b75 h ⟨rfl, rfl, rfl, rfl, rfl, rfl, rfl, trivial⟩
              intro b71 H82 h
              replace h := hR73 b71 H82 h
              refine GL.nil ?_
              refine GC.cond (b := b71) rfl (fun hc83 => ?_) (fun hc83 => ?_)
              · replace h := And.left h hc83
                refine GC.seq ?_
                refine GC.region ?_
                refine GL.val trivial rfl (OV.assign (v := .bool false) rfl) ?_
                refine GL.nil ?_
                exact GC.ret (fun _ _ hf hs => post_tmp1 rfl rfl hf hs ⟨false, rfl, h⟩)
              · replace h := And.right h hc83
                refine GC.skip ?_
                refine GC.seq ?_
                refine GC.region ?_
                refine GL.val trivial rfl (OV.move (v := slv x27.1) rfl) ?_
                refine GL.val trivial rfl (OV.move (v := .int .i64 r44) rfl) ?_
                refine GL.appendLit (s := x27.1) (ys := [.int .i64 r44]) (zc := [.int .i64 0]) (bytes := 8) h trivial rfl (fun _ => trivial) rfl (fun _ => rfl) (fun _ => rfl) (vs := [(0, .int .i64 r44)]) rfl ⟨3, fun _ => by kernel_rfl⟩ ⟨⟨_, _, _, rfl, rfl, rfl, rfl, rfl, rfl⟩⟩ rfl rfl ?_
                intro _ r84 H85 h
                refine GL.val trivial rfl (OV.assign (v := slv r84) rfl) ?_
                refine GL.nil ?_
                refine GC.region ?_
                refine GL.val trivial rfl (OV.move (v := slv x27.2.1) rfl) ?_
                refine GL.val trivial rfl (OV.move (v := slv p_l) rfl) ?_
                refine GL.val trivial rfl (OV.move (v := .int .i64 x27.2.2) rfl) ?_
                obtain ⟨p86, ha87, hb88, hc89, hd90, h⟩ := h
                refine GL.val trivial rfl (OV.indexAddr (s := p_l) rfl rfl rfl rfl ha87 hb88 hc89 hd90) ?_
                obtain ⟨x91, hr92, h⟩ := h
                refine GL.val trivial rfl (OV.loadT (p := (p86.1, p86.2 + (x27.2.2 : Int).toNat * 4)) (cs := T_api_Value.c x91) rfl rfl rfl hr92) ?_
                refine GL.appendLit (s := x27.2.1) (ys := (T_api_Value.c x91) ++ []) (zc := T_api_Value.c T_api_Value.zero) (bytes := 56) h trivial rfl (fun _ => trivial) rfl (fun _ => rfl) (fun _ => rfl) (vs := [(0, .agg (T_api_Value.c x91).toArray)]) rfl ⟨41, fun _ => by kernel_rfl⟩ ⟨⟨_, _, _, rfl, rfl, rfl, rfl, rfl, rfl⟩⟩ rfl rfl ?_
                intro _ r93 H94 h
                refine GL.val trivial rfl (OV.assign (v := slv r93) rfl) ?_
                exact GL.jump (fun _ _ h => h) (r84, r93) h ⟨rfl, rfl, rfl, rfl, rfl, trivial⟩
        · intro x32 H33 h
          replace h := hR34 x32 H33 h
          refine GC.region ?_
          refine GL.val trivial rfl (OV.move (v := .int .i64 x27.2.2) rfl) ?_
          refine GL.val trivial rfl (OV.ibin (v := .int .i64 (w .i64 (x27.2.2 + 1))) rfl rfl rfl) ?_
          refine GL.val trivial rfl (OV.assign (v := .int .i64 (w .i64 (x27.2.2 + 1))) rfl) ?_
          exact GL.jump (fun _ _ h => h) (x32.1, x32.2, (w .i64 (x27.2.2 + 1))) h ⟨rfl, rfl, rfl, rfl, rfl, trivial⟩
      · replace h := And.right h hc30
        refine GC.exit_to (fun _ _ h => h) ?_
        refine GC.seq ?_
        refine GC.seq ?_
        refine GC.region ?_
        refine GL.val trivial rfl (OV.assign (v := .int .i64 0) rfl) ?_
        refine GL.nil ?_
        refine GC.block ?_
        refine GC.loop (α := Int) h (fun x95 => [(12, .int .i64 x95), (5, pv r25), (6, slv x27.1), (7, slv x27.2.1)]) ⟨rfl, rfl, rfl, rfl, trivial⟩ ?_
        intro x95 H97 J96 h
        refine GC.seq ?_
        refine GC.seq ?_
        refine GC.region ?_
        refine GL.val trivial rfl (OV.move (v := .int .i64 x95) rfl) ?_
        refine GL.val trivial rfl (OV.move (v := slv x27.1) rfl) ?_
        refine GL.val trivial rfl (OV.lenSl (s := x27.1) rfl rfl) ?_
        refine GL.val trivial rfl (OV.ibin (v := .bool (decide ((x95 : Int) < (Sl.len x27.1 : Int)))) rfl rfl rfl) ?_
        refine GL.nil ?_
        refine GC.cond (b := decide ((x95 : Int) < (Sl.len x27.1 : Int))) rfl (fun hc98 => ?_) (fun hc98 => ?_)
        · replace h := And.left h hc98
          refine GC.skip ?_
          refine GC.seq ?_
          refine GC.block ?_
          refine GC.seq ?_
          refine GC.region ?_
          refine GL.val trivial rfl (OV.move (v := pv r25) rfl) ?_
          refine GL.val trivial rfl (OV.move (v := slv x27.1) rfl) ?_
          refine GL.val trivial rfl (OV.move (v := .int .i64 x95) rfl) ?_
          obtain ⟨p99, ha100, hb101, hc102, hd103, h⟩ := h
          refine GL.val trivial rfl (OV.indexAddr (s := x27.1) rfl rfl rfl rfl ha100 hb101 hc102 hd103) ?_
          obtain ⟨x104, hr105, h⟩ := h
          refine GL.val trivial rfl (OV.load (p := (p99.1, p99.2 + (x95 : Int).toNat * 1)) rfl rfl hr105) ?_
          refine GL.call h trivial rfl ok_intern_Table_At (vs := [pv r25, .int .i64 x104]) rfl ?_
          rintro _ H108 ⟨r106, r107, rfl, h⟩
          refine GL.val trivial rfl (OV.move (v := .tuple #[.agg (T_api_Value.c r106).toArray, .int .i64 r107]) rfl) ?_
          refine GL.val trivial rfl (OV.extract (v := .agg (T_api_Value.c r106).toArray) rfl rfl) ?_
          refine GL.val trivial rfl (OV.extract (v := .int .i64 r107) rfl rfl) ?_
          refine GL.alloc (cs := T_api_Value.c T_api_Value.zero) h trivial rfl rfl rfl ?_
          intro b109 H110 h
          refine GL.storeT (p := (b109, 0)) (vs := T_api_Value.c r106) h trivial rfl rfl rfl rfl ?_
          intro H111 h
          refine GL.val trivial rfl (OV.assign (v := .int .i64 r107) rfl) ?_
          refine GL.nil ?_
          refine GC.seq ?_
          refine GC.region ?_
          refine GL.val trivial rfl (OV.move (v := pv r25) rfl) ?_
          refine GL.val trivial rfl (OV.move (v := slv x27.2.1) rfl) ?_
          refine GL.val trivial rfl (OV.move (v := .int .i64 x95) rfl) ?_
          obtain ⟨p112, ha113, hb114, hc115, hd116, h⟩ := h
          refine GL.val trivial rfl (OV.indexAddr (s := x27.2.1) rfl rfl rfl rfl ha113 hb114 hc115 hd116) ?_
          obtain ⟨x117, hr118, h⟩ := h
          refine GL.val trivial rfl (OV.loadT (p := (p112.1, p112.2 + (x95 : Int).toNat * 4)) (cs := T_api_Value.c x117) rfl rfl rfl hr118) ?_
          refine GL.call h trivial rfl ok_intern_Table_Find (vs := [pv r25, .agg (T_api_Value.c x117).toArray]) rfl ?_
          rintro _ H121 ⟨r119, r120, rfl, h⟩
          refine GL.val trivial rfl (OV.move (v := .tuple #[.int .i64 r119, .bool r120]) rfl) ?_
          refine GL.val trivial rfl (OV.extract (v := .int .i64 r119) rfl rfl) ?_
          refine GL.val trivial rfl (OV.extract (v := .bool r120) rfl rfl) ?_
          refine GL.val trivial rfl (OV.assign (v := .int .i64 r119) rfl) ?_
          refine GL.val trivial rfl (OV.assign (v := .bool r120) rfl) ?_
          refine GL.nil ?_
          refine GC.seq ?_
          refine GC.seq ?_
          obtain ⟨J122, h, hR125⟩ := h
          refine GC.meet (α := Bool) J122 (fun x123 => [(158, .bool x123), (5, pv r25), (6, slv x27.1), (7, slv x27.2.1), (12, .int .i64 x95)]) ?_ ?_
          · skip
            obtain ⟨Hs126, hle127, h⟩ := h
            refine GC.any (Hs := Hs126) (by kernel_rfl) hle127 ?_
            refine GA.take 0 rfl (by kernel_rfl) (by kernel_rfl) (by kernel_rfl) (fun _ _ _ h => False.elim h) trivial rfl (OV.move (v := .int .i64 r107) rfl) ?_
            refine GA.take 1 rfl (by kernel_rfl) (by kernel_rfl) (by kernel_rfl) (fun _ _ _ h => False.elim h) trivial rfl (OV.ibin (v := .bool ((r107 : Int) != 0)) rfl rfl rfl) ?_
            refine GA.take 2 rfl (by kernel_rfl) (by kernel_rfl) (by kernel_rfl) (fun _ _ _ h => False.elim h) trivial rfl (OV.move (v := .bool ((r107 : Int) != 0)) rfl) ?_
            rcases Bool.eq_false_or_eq_true ((r107 : Int) != 0) with hc128 | hc128
            · replace h := And.left h hc128
              refine GA.skip 3 rfl (by kernel_rfl) (by kernel_rfl) (by kernel_rfl) (fun _ _ _ h => False.elim h) ⟨_, rfl, .inl ⟨_, rfl, hc128⟩⟩ rfl ?_
              refine GA.skip 4 rfl (by kernel_rfl) (by kernel_rfl) (by kernel_rfl) (fun _ _ _ h => False.elim h) ⟨_, rfl, .inl ⟨_, rfl, hc128⟩⟩ rfl ?_
              refine GA.skip 5 rfl (by kernel_rfl) (by kernel_rfl) (by kernel_rfl) (fun _ _ _ h => False.elim h) ⟨_, rfl, .inl ⟨_, rfl, hc128⟩⟩ rfl ?_
              refine GA.skip 6 rfl (by kernel_rfl) (by kernel_rfl) (by kernel_rfl) (fun _ _ _ h => False.elim h) ⟨_, rfl, .inl ⟨_, rfl, hc128⟩⟩ rfl ?_
              refine GA.skip 7 rfl (by kernel_rfl) (by kernel_rfl) (by kernel_rfl) (fun _ _ _ h => False.elim h) ⟨_, rfl, .inl ⟨_, rfl, hc128⟩⟩ rfl ?_
              refine GA.skip 8 rfl (by kernel_rfl) (by kernel_rfl) (by kernel_rfl) (fun _ _ _ h => False.elim h) ⟨_, rfl, .inl ⟨_, rfl, hc128⟩⟩ rfl ?_
              refine GA.skip 9 rfl (by kernel_rfl) (by kernel_rfl) (by kernel_rfl) (fun _ _ _ h => False.elim h) ⟨_, rfl, .inl ⟨_, rfl, hc128⟩⟩ rfl ?_
              refine GA.take 10 rfl (by kernel_rfl) (by kernel_rfl) (by kernel_rfl) (fun _ _ _ h => False.elim h) trivial rfl (OV.pickT (b := (r107 : Int) != 0) (v := .bool true) rfl hc128 rfl) ?_
              refine GA.take 11 rfl (by kernel_rfl) (by kernel_rfl) (by kernel_rfl) (fun _ _ _ h => False.elim h) trivial rfl (OV.move (v := .bool true) rfl) ?_
              refine GA.skip 12 rfl (by kernel_rfl) (by kernel_rfl) (by kernel_rfl) (fun _ _ _ h => False.elim h) ⟨_, rfl, .inl ⟨_, rfl, rfl⟩⟩ rfl ?_
              refine GA.skip 13 rfl (by kernel_rfl) (by kernel_rfl) (by kernel_rfl) (fun _ _ _ h => False.elim h) ⟨_, rfl, .inl ⟨_, rfl, rfl⟩⟩ rfl ?_
              refine GA.take 14 rfl (by kernel_rfl) (by kernel_rfl) (by kernel_rfl) (fun _ _ _ h => False.elim h) trivial rfl (OV.pickT (b := true) (v := .bool true) rfl rfl rfl) ?_
              refine GA.take 15 rfl (by kernel_rfl) (by kernel_rfl) (by kernel_rfl) (fun _ _ _ h => False.elim h) trivial rfl (OV.move (v := .bool true) rfl) ?_
              refine GA.skip 16 rfl (by kernel_rfl) (by kernel_rfl) (by kernel_rfl) (fun _ _ _ h => False.elim h) ⟨_, rfl, .inl ⟨_, rfl, rfl⟩⟩ rfl ?_
              refine GA.skip 17 rfl (by kernel_rfl) (by kernel_rfl) (by kernel_rfl) (fun _ _ _ h => False.elim h) ⟨_, rfl, .inl ⟨_, rfl, rfl⟩⟩ rfl ?_
              refine GA.skip 18 rfl (by kernel_rfl) (by kernel_rfl) (by kernel_rfl) (fun _ _ _ h => False.elim h) ⟨_, rfl, .inl ⟨_, rfl, rfl⟩⟩ rfl ?_
              refine GA.skip 19 rfl (by kernel_rfl) (by kernel_rfl) (by kernel_rfl) (fun _ _ _ h => False.elim h) ⟨_, rfl, .inl ⟨_, rfl, rfl⟩⟩ rfl ?_
              refine GA.skip 20 rfl (by kernel_rfl) (by kernel_rfl) (by kernel_rfl) (fun _ _ _ h => False.elim h) ⟨_, rfl, .inl ⟨_, rfl, rfl⟩⟩ rfl ?_
              refine GA.skip 21 rfl (by kernel_rfl) (by kernel_rfl) (by kernel_rfl) (fun _ _ _ h => False.elim h) ⟨_, rfl, .inl ⟨_, rfl, rfl⟩⟩ rfl ?_
              refine GA.take 22 rfl (by kernel_rfl) (by kernel_rfl) (by kernel_rfl) (fun _ _ _ h => False.elim h) trivial rfl (OV.pickT (b := true) (v := .bool true) rfl rfl rfl) ?_
              refine GA.done (by kernel_rfl) ?_
              exact GL.jump (fun _ _ h => h) true h ⟨rfl, rfl, rfl, rfl, rfl, trivial⟩
            · replace h := And.right h hc128
              obtain ⟨x129, hr130, h⟩ := h
              refine GA.take 3 rfl (by kernel_rfl) (by kernel_rfl) (by kernel_rfl) (fun _ _ _ h => False.elim h) ⟨_, _, rfl, rfl, hc128⟩ rfl (OV.loadT (p := (b109, 0)) (cs := T_api_Value.c x129) rfl rfl rfl hr130) ?_
              refine GA.take 4 rfl (by kernel_rfl) (by kernel_rfl) (by kernel_rfl) (fun _ _ _ h => False.elim h) ⟨_, _, rfl, rfl, hc128⟩ rfl (OV.move (v := slv x27.2.1) rfl) ?_
              refine GA.take 5 rfl (by kernel_rfl) (by kernel_rfl) (by kernel_rfl) (fun _ _ _ h => False.elim h) ⟨_, _, rfl, rfl, hc128⟩ rfl (OV.move (v := .int .i64 x95) rfl) ?_
              obtain ⟨p131, ha132, hb133, hc134, hd135, h⟩ := h
              refine GA.take 6 rfl (by kernel_rfl) (by kernel_rfl) (by kernel_rfl) (fun _ _ _ h => False.elim h) ⟨_, _, rfl, rfl, hc128⟩ rfl (OV.indexAddr (s := x27.2.1) rfl rfl rfl rfl ha132 hb133 hc134 hd135) ?_
              obtain ⟨x136, hr137, h⟩ := h
              refine GA.take 7 rfl (by kernel_rfl) (by kernel_rfl) (by kernel_rfl) (fun _ _ _ h => False.elim h) ⟨_, _, rfl, rfl, hc128⟩ rfl (OV.loadT (p := (p131.1, p131.2 + (x95 : Int).toNat * 4)) (cs := T_api_Value.c x136) rfl rfl rfl hr137) ?_
              refine GA.eff 8 rfl (by kernel_rfl) ?_
              refine GL.call h ⟨_, _, rfl, rfl, hc128⟩ rfl ok_ref02_Same (vs := [.agg (T_api_Value.c x129).toArray, .agg (T_api_Value.c x136).toArray]) rfl ?_
              rintro _ H140 ⟨r139, rfl, h⟩
              obtain ⟨hle138, h⟩ := h
              refine GA.back hle138 ?_
              refine GA.take 9 rfl (by kernel_rfl) (by kernel_rfl) (by kernel_rfl) (fun _ _ _ h => False.elim h) ⟨_, _, rfl, rfl, hc128⟩ rfl (OV.not rfl) ?_
              refine GA.take 10 rfl (by kernel_rfl) (by kernel_rfl) (by kernel_rfl) (fun _ _ _ h => False.elim h) trivial rfl (OV.pickF (b := (r107 : Int) != 0) (v := .bool (!r139)) rfl hc128 rfl) ?_
              refine GA.take 11 rfl (by kernel_rfl) (by kernel_rfl) (by kernel_rfl) (fun _ _ _ h => False.elim h) trivial rfl (OV.move (v := .bool (!r139)) rfl) ?_
              rcases Bool.eq_false_or_eq_true (!r139) with hc141 | hc141
              · replace h := And.left h hc141
                refine GA.skip 12 rfl (by kernel_rfl) (by kernel_rfl) (by kernel_rfl) (fun _ _ _ h => False.elim h) ⟨_, rfl, .inl ⟨_, rfl, hc141⟩⟩ rfl ?_
                refine GA.skip 13 rfl (by kernel_rfl) (by kernel_rfl) (by kernel_rfl) (fun _ _ _ h => False.elim h) ⟨_, rfl, .inl ⟨_, rfl, hc141⟩⟩ rfl ?_
                refine GA.take 14 rfl (by kernel_rfl) (by kernel_rfl) (by kernel_rfl) (fun _ _ _ h => False.elim h) trivial rfl (OV.pickT (b := !r139) (v := .bool true) rfl hc141 rfl) ?_
                refine GA.take 15 rfl (by kernel_rfl) (by kernel_rfl) (by kernel_rfl) (fun _ _ _ h => False.elim h) trivial rfl (OV.move (v := .bool true) rfl) ?_
                refine GA.skip 16 rfl (by kernel_rfl) (by kernel_rfl) (by kernel_rfl) (fun _ _ _ h => False.elim h) ⟨_, rfl, .inl ⟨_, rfl, rfl⟩⟩ rfl ?_
                refine GA.skip 17 rfl (by kernel_rfl) (by kernel_rfl) (by kernel_rfl) (fun _ _ _ h => False.elim h) ⟨_, rfl, .inl ⟨_, rfl, rfl⟩⟩ rfl ?_
                refine GA.skip 18 rfl (by kernel_rfl) (by kernel_rfl) (by kernel_rfl) (fun _ _ _ h => False.elim h) ⟨_, rfl, .inl ⟨_, rfl, rfl⟩⟩ rfl ?_
                refine GA.skip 19 rfl (by kernel_rfl) (by kernel_rfl) (by kernel_rfl) (fun _ _ _ h => False.elim h) ⟨_, rfl, .inl ⟨_, rfl, rfl⟩⟩ rfl ?_
                refine GA.skip 20 rfl (by kernel_rfl) (by kernel_rfl) (by kernel_rfl) (fun _ _ _ h => False.elim h) ⟨_, rfl, .inl ⟨_, rfl, rfl⟩⟩ rfl ?_
                refine GA.skip 21 rfl (by kernel_rfl) (by kernel_rfl) (by kernel_rfl) (fun _ _ _ h => False.elim h) ⟨_, rfl, .inl ⟨_, rfl, rfl⟩⟩ rfl ?_
                refine GA.take 22 rfl (by kernel_rfl) (by kernel_rfl) (by kernel_rfl) (fun _ _ _ h => False.elim h) trivial rfl (OV.pickT (b := true) (v := .bool true) rfl rfl rfl) ?_
                refine GA.done (by kernel_rfl) ?_
                exact GL.jump (fun _ _ h => h) true h ⟨rfl, rfl, rfl, rfl, rfl, trivial⟩
              · replace h := And.right h hc141
                refine GA.take 12 rfl (by kernel_rfl) (by kernel_rfl) (by kernel_rfl) (fun _ _ _ h => False.elim h) ⟨_, _, rfl, rfl, hc141⟩ rfl (OV.move (v := .bool r120) rfl) ?_
                refine GA.take 13 rfl (by kernel_rfl) (by kernel_rfl) (by kernel_rfl) (fun _ _ _ h => False.elim h) ⟨_, _, rfl, rfl, hc141⟩ rfl (OV.not rfl) ?_
                refine GA.take 14 rfl (by kernel_rfl) (by kernel_rfl) (by kernel_rfl) (fun _ _ _ h => False.elim h) trivial rfl (OV.pickF (b := !r139) (v := .bool (!r120)) rfl hc141 rfl) ?_
                refine GA.take 15 rfl (by kernel_rfl) (by kernel_rfl) (by kernel_rfl) (fun _ _ _ h => False.elim h) trivial rfl (OV.move (v := .bool (!r120)) rfl) ?_
                rcases Bool.eq_false_or_eq_true (!r120) with hc142 | hc142
                · replace h := And.left h hc142
                  refine GA.skip 16 rfl (by kernel_rfl) (by kernel_rfl) (by kernel_rfl) (fun _ _ _ h => False.elim h) ⟨_, rfl, .inl ⟨_, rfl, hc142⟩⟩ rfl ?_
                  refine GA.skip 17 rfl (by kernel_rfl) (by kernel_rfl) (by kernel_rfl) (fun _ _ _ h => False.elim h) ⟨_, rfl, .inl ⟨_, rfl, hc142⟩⟩ rfl ?_
                  refine GA.skip 18 rfl (by kernel_rfl) (by kernel_rfl) (by kernel_rfl) (fun _ _ _ h => False.elim h) ⟨_, rfl, .inl ⟨_, rfl, hc142⟩⟩ rfl ?_
                  refine GA.skip 19 rfl (by kernel_rfl) (by kernel_rfl) (by kernel_rfl) (fun _ _ _ h => False.elim h) ⟨_, rfl, .inl ⟨_, rfl, hc142⟩⟩ rfl ?_
                  refine GA.skip 20 rfl (by kernel_rfl) (by kernel_rfl) (by kernel_rfl) (fun _ _ _ h => False.elim h) ⟨_, rfl, .inl ⟨_, rfl, hc142⟩⟩ rfl ?_
                  refine GA.skip 21 rfl (by kernel_rfl) (by kernel_rfl) (by kernel_rfl) (fun _ _ _ h => False.elim h) ⟨_, rfl, .inl ⟨_, rfl, hc142⟩⟩ rfl ?_
                  refine GA.take 22 rfl (by kernel_rfl) (by kernel_rfl) (by kernel_rfl) (fun _ _ _ h => False.elim h) trivial rfl (OV.pickT (b := !r120) (v := .bool true) rfl hc142 rfl) ?_
                  refine GA.done (by kernel_rfl) ?_
                  exact GL.jump (fun _ _ h => h) true h ⟨rfl, rfl, rfl, rfl, rfl, trivial⟩
                · replace h := And.right h hc142
                  refine GA.take 16 rfl (by kernel_rfl) (by kernel_rfl) (by kernel_rfl) (fun _ _ _ h => False.elim h) ⟨_, _, rfl, rfl, hc142⟩ rfl (OV.move (v := .int .i64 r119) rfl) ?_
                  refine GA.take 17 rfl (by kernel_rfl) (by kernel_rfl) (by kernel_rfl) (fun _ _ _ h => False.elim h) ⟨_, _, rfl, rfl, hc142⟩ rfl (OV.move (v := slv x27.1) rfl) ?_
                  refine GA.take 18 rfl (by kernel_rfl) (by kernel_rfl) (by kernel_rfl) (fun _ _ _ h => False.elim h) ⟨_, _, rfl, rfl, hc142⟩ rfl (OV.move (v := .int .i64 x95) rfl) ?_
                  obtain ⟨p143, ha144, hb145, hc146, hd147, h⟩ := h
                  refine GA.take 19 rfl (by kernel_rfl) (by kernel_rfl) (by kernel_rfl) (fun _ _ _ h => False.elim h) ⟨_, _, rfl, rfl, hc142⟩ rfl (OV.indexAddr (s := x27.1) rfl rfl rfl rfl ha144 hb145 hc146 hd147) ?_
                  obtain ⟨x148, hr149, h⟩ := h
                  refine GA.take 20 rfl (by kernel_rfl) (by kernel_rfl) (by kernel_rfl) (fun _ _ _ h => False.elim h) ⟨_, _, rfl, rfl, hc142⟩ rfl (OV.load (p := (p143.1, p143.2 + (x95 : Int).toNat * 1)) rfl rfl hr149) ?_
                  refine GA.take 21 rfl (by kernel_rfl) (by kernel_rfl) (by kernel_rfl) (fun _ _ _ h => False.elim h) ⟨_, _, rfl, rfl, hc142⟩ rfl (OV.ibin (v := .bool ((r119 : Int) != x148)) rfl rfl rfl) ?_
                  refine GA.take 22 rfl (by kernel_rfl) (by kernel_rfl) (by kernel_rfl) (fun _ _ _ h => False.elim h) trivial rfl (OV.pickF (b := !r120) (v := .bool ((r119 : Int) != x148)) rfl hc142 rfl) ?_
                  refine GA.done (by kernel_rfl) ?_
                  exact GL.jump (fun _ _ h => h) ((r119 : Int) != x148) h ⟨rfl, rfl, rfl, rfl, rfl, trivial⟩
          · intro x123 H124 h
            replace h := hR125 x123 H124 h
            refine GL.nil ?_
            refine GC.cond (b := x123) rfl (fun hc150 => ?_) (fun hc150 => ?_)
            · replace h := And.left h hc150
              refine GC.seq ?_
              refine GC.region ?_
              refine GL.val trivial rfl (OV.assign (v := .bool false) rfl) ?_
              refine GL.nil ?_
              exact GC.ret (fun _ _ hf hs => post_tmp1 rfl rfl hf hs ⟨false, rfl, h⟩)
            · replace h := And.right h hc150
              refine GC.skip ?_
              refine GC.seq ?_
              refine GC.region ?_
              refine GL.val trivial rfl (OV.assign (v := .int .i64 0) rfl) ?_
              refine GL.nil ?_
              refine GC.block ?_
              refine GC.loop (α := Int) h (fun x151 => [(17, .int .i64 x151), (5, pv r25), (6, slv x27.1), (7, slv x27.2.1), (12, .int .i64 x95)]) ⟨rfl, rfl, rfl, rfl, rfl, trivial⟩ ?_
              intro x151 H153 J152 h
              refine GC.seq ?_
              refine GC.seq ?_
              refine GC.region ?_
              refine GL.val trivial rfl (OV.move (v := .int .i64 x151) rfl) ?_
              refine GL.val trivial rfl (OV.move (v := .int .i64 x95) rfl) ?_
              refine GL.val trivial rfl (OV.ibin (v := .bool (decide ((x151 : Int) < x95))) rfl rfl rfl) ?_
              refine GL.nil ?_
              refine GC.cond (b := decide ((x151 : Int) < x95)) rfl (fun hc154 => ?_) (fun hc154 => ?_)
              · replace h := And.left h hc154
                refine GC.skip ?_
                refine GC.seq ?_
                refine GC.block ?_
                refine GC.seq ?_
                obtain ⟨Hs155, hle156, h⟩ := h
                refine GC.any (Hs := Hs155) (by kernel_rfl) hle156 ?_
                refine GA.take 0 rfl (by kernel_rfl) (by kernel_rfl) (by kernel_rfl) (fun _ _ _ h => False.elim h) trivial rfl (OV.move (v := slv x27.1) rfl) ?_
                refine GA.take 1 rfl (by kernel_rfl) (by kernel_rfl) (by kernel_rfl) (fun _ _ _ h => False.elim h) trivial rfl (OV.move (v := .int .i64 x95) rfl) ?_
                obtain ⟨p157, ha158, hb159, hc160, hd161, h⟩ := h
                refine GA.take 2 rfl (by kernel_rfl) (by kernel_rfl) (by kernel_rfl) (fun _ _ _ h => False.elim h) trivial rfl (OV.indexAddr (s := x27.1) rfl rfl rfl rfl ha158 hb159 hc160 hd161) ?_
                obtain ⟨x162, hr163, h⟩ := h
                refine GA.take 3 rfl (by kernel_rfl) (by kernel_rfl) (by kernel_rfl) (fun _ _ _ h => False.elim h) trivial rfl (OV.load (p := (p157.1, p157.2 + (x95 : Int).toNat * 1)) rfl rfl hr163) ?_
                refine GA.take 4 rfl (by kernel_rfl) (by kernel_rfl) (by kernel_rfl) (fun _ _ _ h => False.elim h) trivial rfl (OV.move (v := slv x27.1) rfl) ?_
                refine GA.take 5 rfl (by kernel_rfl) (by kernel_rfl) (by kernel_rfl) (fun _ _ _ h => False.elim h) trivial rfl (OV.move (v := .int .i64 x151) rfl) ?_
                obtain ⟨p164, ha165, hb166, hc167, hd168, h⟩ := h
                refine GA.take 6 rfl (by kernel_rfl) (by kernel_rfl) (by kernel_rfl) (fun _ _ _ h => False.elim h) trivial rfl (OV.indexAddr (s := x27.1) rfl rfl rfl rfl ha165 hb166 hc167 hd168) ?_
                obtain ⟨x169, hr170, h⟩ := h
                refine GA.take 7 rfl (by kernel_rfl) (by kernel_rfl) (by kernel_rfl) (fun _ _ _ h => False.elim h) trivial rfl (OV.load (p := (p164.1, p164.2 + (x151 : Int).toNat * 1)) rfl rfl hr170) ?_
                refine GA.take 8 rfl (by kernel_rfl) (by kernel_rfl) (by kernel_rfl) (fun _ _ _ h => False.elim h) trivial rfl (OV.ibin (v := .bool ((x162 : Int) == x169)) rfl rfl rfl) ?_
                refine GA.take 9 rfl (by kernel_rfl) (by kernel_rfl) (by kernel_rfl) (fun _ _ _ h => False.elim h) trivial rfl (OV.move (v := slv x27.2.1) rfl) ?_
                refine GA.take 10 rfl (by kernel_rfl) (by kernel_rfl) (by kernel_rfl) (fun _ _ _ h => False.elim h) trivial rfl (OV.move (v := .int .i64 x95) rfl) ?_
                obtain ⟨p171, ha172, hb173, hc174, hd175, h⟩ := h
                refine GA.take 11 rfl (by kernel_rfl) (by kernel_rfl) (by kernel_rfl) (fun _ _ _ h => False.elim h) trivial rfl (OV.indexAddr (s := x27.2.1) rfl rfl rfl rfl ha172 hb173 hc174 hd175) ?_
                obtain ⟨x176, hr177, h⟩ := h
                refine GA.take 12 rfl (by kernel_rfl) (by kernel_rfl) (by kernel_rfl) (fun _ _ _ h => False.elim h) trivial rfl (OV.loadT (p := (p171.1, p171.2 + (x95 : Int).toNat * 4)) (cs := T_api_Value.c x176) rfl rfl rfl hr177) ?_
                refine GA.take 13 rfl (by kernel_rfl) (by kernel_rfl) (by kernel_rfl) (fun _ _ _ h => False.elim h) trivial rfl (OV.move (v := slv x27.2.1) rfl) ?_
                refine GA.take 14 rfl (by kernel_rfl) (by kernel_rfl) (by kernel_rfl) (fun _ _ _ h => False.elim h) trivial rfl (OV.move (v := .int .i64 x151) rfl) ?_
                obtain ⟨p178, ha179, hb180, hc181, hd182, h⟩ := h
                refine GA.take 15 rfl (by kernel_rfl) (by kernel_rfl) (by kernel_rfl) (fun _ _ _ h => False.elim h) trivial rfl (OV.indexAddr (s := x27.2.1) rfl rfl rfl rfl ha179 hb180 hc181 hd182) ?_
                obtain ⟨x183, hr184, h⟩ := h
                refine GA.take 16 rfl (by kernel_rfl) (by kernel_rfl) (by kernel_rfl) (fun _ _ _ h => False.elim h) trivial rfl (OV.loadT (p := (p178.1, p178.2 + (x151 : Int).toNat * 4)) (cs := T_api_Value.c x183) rfl rfl rfl hr184) ?_
                refine GA.eff 17 rfl (by kernel_rfl) ?_
                refine GL.call h trivial rfl ok_ref02_Same (vs := [.agg (T_api_Value.c x176).toArray, .agg (T_api_Value.c x183).toArray]) rfl ?_
                rintro _ H187 ⟨r186, rfl, h⟩
                obtain ⟨hle185, h⟩ := h
                refine GA.back hle185 ?_
                refine GA.take 18 rfl (by kernel_rfl) (by kernel_rfl) (by kernel_rfl) (fun _ _ _ h => False.elim h) trivial rfl (OV.neqBool rfl rfl rfl) ?_
                refine GA.done (by kernel_rfl) ?_
                refine GL.nil ?_
                refine GC.cond (b := !(((x162 : Int) == x169) == r186)) rfl (fun hc188 => ?_) (fun hc188 => ?_)
                · replace h := And.left h hc188
                  refine GC.seq ?_
                  refine GC.region ?_
                  refine GL.val trivial rfl (OV.assign (v := .bool false) rfl) ?_
                  refine GL.nil ?_
                  exact GC.ret (fun _ _ hf hs => post_tmp1 rfl rfl hf hs ⟨false, rfl, h⟩)
                · replace h := And.right h hc188
                  refine GC.skip_to (fun _ _ h => h) ?_
                  refine GC.region ?_
                  refine GL.val trivial rfl (OV.move (v := .int .i64 x151) rfl) ?_
                  refine GL.val trivial rfl (OV.ibin (v := .int .i64 (w .i64 (x151 + 1))) rfl rfl rfl) ?_
                  refine GL.val trivial rfl (OV.assign (v := .int .i64 (w .i64 (x151 + 1))) rfl) ?_
                  exact GL.jump (fun _ _ h => h) (w .i64 (x151 + 1)) h ⟨rfl, rfl, rfl, rfl, rfl, trivial⟩
              · replace h := And.right h hc154
                refine GC.exit_to (fun _ _ h => h) ?_
                refine GC.region ?_
                refine GL.val trivial rfl (OV.move (v := .int .i64 x95) rfl) ?_
                refine GL.val trivial rfl (OV.ibin (v := .int .i64 (w .i64 (x95 + 1))) rfl rfl rfl) ?_
                refine GL.val trivial rfl (OV.assign (v := .int .i64 (w .i64 (x95 + 1))) rfl) ?_
                exact GL.jump (fun _ _ h => h) (w .i64 (x95 + 1)) h ⟨rfl, rfl, rfl, rfl, trivial⟩
        · replace h := And.right h hc98
          refine GC.exit_to (fun _ _ h => h) ?_
          refine GC.seq ?_
          refine GC.region ?_
          refine GL.val trivial rfl (OV.move (v := pv r25) rfl) ?_
          refine GL.val trivial rfl (OV.move (v := slv x27.1) rfl) ?_
          refine GL.call h trivial rfl ok_intern_Table_Row (vs := [pv r25, slv x27.1]) rfl ?_
          rintro _ H191 ⟨r189, r190, rfl, h⟩
          refine GL.val trivial rfl (OV.move (v := .tuple #[slv r189, .int .i64 r190]) rfl) ?_
          refine GL.val trivial rfl (OV.extract (v := slv r189) rfl rfl) ?_
          refine GL.val trivial rfl (OV.extract (v := .int .i64 r190) rfl rfl) ?_
          refine GL.val trivial rfl (OV.assign (v := slv r189) rfl) ?_
          refine GL.val trivial rfl (OV.assign (v := .int .i64 r190) rfl) ?_
          refine GL.nil ?_
          refine GC.seq ?_
          refine GC.region ?_
          refine GL.val trivial rfl (OV.move (v := .int .i64 r190) rfl) ?_
          refine GL.val trivial rfl (OV.ibin (v := .bool ((r190 : Int) == 0)) rfl rfl rfl) ?_
          refine GL.val trivial rfl (OV.move (v := .bool ((r190 : Int) == 0)) rfl) ?_
          obtain ⟨J193, h, hR194⟩ := h
          refine GL.cut (α := Bool) 4 J193 (fun b192 => [(195, .bool b192)]) ?_ ?_
          · rcases Bool.eq_false_or_eq_true ((r190 : Int) == 0) with hc195 | hc195
            · skip
              replace h := And.left h hc195
              refine GL.val ⟨_, _, rfl, rfl, hc195⟩ rfl (OV.move (v := slv r189) rfl) ?_
              refine GL.val ⟨_, _, rfl, rfl, hc195⟩ rfl (OV.move (v := slv x27.2.1) rfl) ?_
              refine GL.call h ⟨_, _, rfl, rfl, hc195⟩ rfl ok_ref02_SameRow (vs := [slv r189, slv x27.2.1]) rfl ?_
              rintro _ H197 ⟨r196, rfl, h⟩
              refine GL.val trivial rfl (OV.pickT (b := (r190 : Int) == 0) (v := .bool r196) rfl hc195 rfl) ?_
              exact GL.jump (fun _ _ h => h) r196 h ⟨rfl, trivial⟩
            · skip
              replace h := And.right h hc195
              refine GL.skip ⟨_, rfl, .inl ⟨_, rfl, hc195⟩⟩ rfl ?_
              refine GL.skip ⟨_, rfl, .inl ⟨_, rfl, hc195⟩⟩ rfl ?_
              refine GL.skip ⟨_, rfl, .inl ⟨_, rfl, hc195⟩⟩ rfl ?_
              refine GL.val trivial rfl (OV.pickF (b := (r190 : Int) == 0) (v := .bool false) rfl hc195 rfl) ?_
              exact GL.jump (fun _ _ h => h) false h ⟨rfl, trivial⟩
          intro b192 H198 h
          replace h := hR194 b192 H198 h
          refine GL.val trivial rfl (OV.assign (v := .bool b192) rfl) ?_
          refine GL.nil ?_
          exact GC.ret (fun _ _ hf hs => post_tmp1 rfl rfl hf hs ⟨b192, rfl, h⟩)

def sh_law04_awake (C : Ctx) (K : Bool → Heap → Prop) (H : Heap) : Prop :=
  nw (T_api_Value.c T_api_Value.zero) (fun b1 H2 =>
 nw (T_api_Value.c T_api_Value.zero) (fun b3 H4 =>
 nw (T_api_Value.c T_api_Value.zero) (fun b5 H6 =>
 stT (b1, 0) (T_api_Value.c (⟨2, 5, [], Sl.nil⟩ : T_api_Value)) (fun H7 =>
 stT (b3, 0) (T_api_Value.c (⟨4, 0, [97], Sl.nil⟩ : T_api_Value)) (fun H8 =>
 stT (b5, 0) (T_api_Value.c (⟨1, 1, [], Sl.nil⟩ : T_api_Value)) (fun H9 =>
 c_intern_New C (fun r10 H11 =>
 ldT H11 T_api_Value.c (b1, 0) fun x12 =>
 c_intern_Table_Put C r10 x12 (fun r14 r15 H16 =>
 ldT H16 T_api_Value.c (b3, 0) fun x17 =>
 c_intern_Table_Put C r10 x17 (fun r19 r20 H21 =>
 ldT H21 T_api_Value.c (b1, 0) fun x22 =>
 c_intern_Table_Put C r10 x22 (fun r24 r25 H26 =>
 ldT H26 T_api_Value.c (b3, 0) fun x27 =>
 ldT H26 T_api_Value.c (b5, 0) fun x29 =>
 ldT H26 T_api_Value.c (b1, 0) fun x31 =>
 nw ((T_api_Value.c x27) ++ (T_api_Value.c x29) ++ (T_api_Value.c x31) ++ []) (fun b33 H34 =>
 c_intern_Table_PutRow C r10 (Sl.of (some (b33, 0)) 3 3) (fun r35 r36 H37 =>
 c_intern_Table_At C r10 2 (fun r38 r39 H40 =>
 nw (T_api_Value.c T_api_Value.zero) (fun b41 H42 =>
 stT (b41, 0) (T_api_Value.c r38) (fun H43 =>
 c_intern_Table_At C r10 3 (fun r44 r45 H46 =>
 nw (T_api_Value.c T_api_Value.zero) (fun b47 H48 =>
 stT (b47, 0) (T_api_Value.c r44) (fun H49 =>
 jn (α := Bool) (fun b58 H66 =>
 jn (α := Bool) (fun b67 H77 =>
 jn (α := Bool) (fun b78 H84 =>
 K b78 H84)
 (fun J79 => ift b67
 (c_intern_Table_Len C r10 (fun r82 H83 =>
 J79 ((r82 : Int) == 3) H83) H77)
 (J79 false H77)))
 (fun J68 => ift b58
 (ldT H66 T_api_Value.c (b41, 0) fun x71 =>
 ldT H66 T_api_Value.c (b5, 0) fun x73 =>
 c_ref02_Same C x71 x73 (fun r75 H76 =>
 J68 r75 H76) H66)
 (J68 false H66)))
 (fun J59 => ift ((((((((((r15 : Int) == 0) && ((r20 : Int) == 0)) && ((r25 : Int) == 0)) && ((r36 : Int) == 0)) && ((r39 : Int) == 0)) && ((r45 : Int) == 5)) && ((r14 : Int) == 0)) && ((r19 : Int) == 1)) && ((r24 : Int) == 0))
 (nw ([.int .i64 1, .int .i64 2, .int .i64 0]) (fun b62 H63 =>
 c_ref04_Ints C r35 (Sl.of (some (b62, 0)) 3 3) (fun r64 H65 =>
 J59 r64 H65) H63) H49)
 (J59 false H49))) H48) H46) H43) H42) H40) H37) H34) H26) H21) H16) H11) H9) H8) H7) H6) H4) H2) H

theorem ad_law04_awake (C : Ctx) (K : Bool → Heap → Prop) (H : Heap) (h : sh_law04_awake C  K H) : c_law04_awake C  K H := by
  refine Spec.enter Tryd.func6 rfl Tryd.ntmps6 rfl ?_
  refine GC.sub [] trivial ?_
  refine GC.seq ?_
  refine GC.region ?_
  refine GL.val trivial rfl (OV.assign (v := .bool false) rfl) ?_
  refine GL.nil ?_
  refine GC.seq ?_
  refine GC.region ?_
  refine GL.val trivial rfl (OV.build (vs := [(0, .int .u8 2), (1, .int .i64 5)]) (v := .agg (T_api_Value.c (⟨2, 5, [], Sl.nil⟩ : T_api_Value)).toArray) rfl (fun _ => by kernel_rfl)) ?_
  refine GL.val trivial rfl (OV.build (vs := [(0, .int .u8 4), (2, sv [97])]) (v := .agg (T_api_Value.c (⟨4, 0, [97], Sl.nil⟩ : T_api_Value)).toArray) rfl (fun _ => by kernel_rfl)) ?_
  refine GL.val trivial rfl (OV.build (vs := [(0, .int .u8 1), (1, .int .i64 1)]) (v := .agg (T_api_Value.c (⟨1, 1, [], Sl.nil⟩ : T_api_Value)).toArray) rfl (fun _ => by kernel_rfl)) ?_
  refine GL.alloc (cs := T_api_Value.c T_api_Value.zero) h trivial rfl rfl rfl ?_
  intro b1 H2 h
  refine GL.alloc (cs := T_api_Value.c T_api_Value.zero) h trivial rfl rfl rfl ?_
  intro b3 H4 h
  refine GL.alloc (cs := T_api_Value.c T_api_Value.zero) h trivial rfl rfl rfl ?_
  intro b5 H6 h
  refine GL.storeT (p := (b1, 0)) (vs := T_api_Value.c (⟨2, 5, [], Sl.nil⟩ : T_api_Value)) h trivial rfl rfl rfl rfl ?_
  intro H7 h
  refine GL.storeT (p := (b3, 0)) (vs := T_api_Value.c (⟨4, 0, [97], Sl.nil⟩ : T_api_Value)) h trivial rfl rfl rfl rfl ?_
  intro H8 h
  refine GL.storeT (p := (b5, 0)) (vs := T_api_Value.c (⟨1, 1, [], Sl.nil⟩ : T_api_Value)) h trivial rfl rfl rfl rfl ?_
  intro H9 h
  refine GL.nil ?_
  refine GC.seq ?_
  refine GC.region ?_
  refine GL.call h trivial rfl ok_intern_New (vs := []) rfl ?_
  rintro _ H11 ⟨r10, rfl, h⟩
  refine GL.val trivial rfl (OV.assign (v := pv r10) rfl) ?_
  refine GL.nil ?_
  refine GC.seq ?_
  refine GC.region ?_
  refine GL.val trivial rfl (OV.move (v := pv r10) rfl) ?_
  obtain ⟨x12, hr13, h⟩ := h
  refine GL.val trivial rfl (OV.loadT (p := (b1, 0)) (cs := T_api_Value.c x12) rfl rfl rfl hr13) ?_
  refine GL.call h trivial rfl ok_intern_Table_Put (vs := [pv r10, .agg (T_api_Value.c x12).toArray]) rfl ?_
  rintro _ H16 ⟨r14, r15, rfl, h⟩
  refine GL.val trivial rfl (OV.move (v := .tuple #[.int .i64 r14, .int .i64 r15]) rfl) ?_
  refine GL.val trivial rfl (OV.extract (v := .int .i64 r14) rfl rfl) ?_
  refine GL.val trivial rfl (OV.extract (v := .int .i64 r15) rfl rfl) ?_
  refine GL.val trivial rfl (OV.assign (v := .int .i64 r14) rfl) ?_
  refine GL.val trivial rfl (OV.assign (v := .int .i64 r15) rfl) ?_
  refine GL.nil ?_
  refine GC.seq ?_
  refine GC.region ?_
  refine GL.val trivial rfl (OV.move (v := pv r10) rfl) ?_
  obtain ⟨x17, hr18, h⟩ := h
  refine GL.val trivial rfl (OV.loadT (p := (b3, 0)) (cs := T_api_Value.c x17) rfl rfl rfl hr18) ?_
  refine GL.call h trivial rfl ok_intern_Table_Put (vs := [pv r10, .agg (T_api_Value.c x17).toArray]) rfl ?_
  rintro _ H21 ⟨r19, r20, rfl, h⟩
  refine GL.val trivial rfl (OV.move (v := .tuple #[.int .i64 r19, .int .i64 r20]) rfl) ?_
  refine GL.val trivial rfl (OV.extract (v := .int .i64 r19) rfl rfl) ?_
  refine GL.val trivial rfl (OV.extract (v := .int .i64 r20) rfl rfl) ?_
  refine GL.val trivial rfl (OV.assign (v := .int .i64 r19) rfl) ?_
  refine GL.val trivial rfl (OV.assign (v := .int .i64 r20) rfl) ?_
  refine GL.nil ?_
  refine GC.seq ?_
  refine GC.region ?_
  refine GL.val trivial rfl (OV.move (v := pv r10) rfl) ?_
  obtain ⟨x22, hr23, h⟩ := h
  refine GL.val trivial rfl (OV.loadT (p := (b1, 0)) (cs := T_api_Value.c x22) rfl rfl rfl hr23) ?_
  refine GL.call h trivial rfl ok_intern_Table_Put (vs := [pv r10, .agg (T_api_Value.c x22).toArray]) rfl ?_
  rintro _ H26 ⟨r24, r25, rfl, h⟩
  refine GL.val trivial rfl (OV.move (v := .tuple #[.int .i64 r24, .int .i64 r25]) rfl) ?_
  refine GL.val trivial rfl (OV.extract (v := .int .i64 r24) rfl rfl) ?_
  refine GL.val trivial rfl (OV.extract (v := .int .i64 r25) rfl rfl) ?_
  refine GL.val trivial rfl (OV.assign (v := .int .i64 r24) rfl) ?_
  refine GL.val trivial rfl (OV.assign (v := .int .i64 r25) rfl) ?_
  refine GL.nil ?_
  refine GC.seq ?_
  refine GC.region ?_
  refine GL.val trivial rfl (OV.move (v := pv r10) rfl) ?_
  obtain ⟨x27, hr28, h⟩ := h
  refine GL.val trivial rfl (OV.loadT (p := (b3, 0)) (cs := T_api_Value.c x27) rfl rfl rfl hr28) ?_
  obtain ⟨x29, hr30, h⟩ := h
  refine GL.val trivial rfl (OV.loadT (p := (b5, 0)) (cs := T_api_Value.c x29) rfl rfl rfl hr30) ?_
  obtain ⟨x31, hr32, h⟩ := h
  refine GL.val trivial rfl (OV.loadT (p := (b1, 0)) (cs := T_api_Value.c x31) rfl rfl rfl hr32) ?_
  refine GL.buildSlice (cs := (T_api_Value.c x27) ++ (T_api_Value.c x29) ++ (T_api_Value.c x31) ++ []) h trivial rfl (vs := [(0, .agg (T_api_Value.c x27).toArray), (1, .agg (T_api_Value.c x29).toArray), (2, .agg (T_api_Value.c x31).toArray)]) rfl ⟨41, fun _ => by kernel_rfl⟩ ?_
  intro b33 H34 h
  refine GL.call h trivial rfl ok_intern_Table_PutRow (vs := [pv r10, slv (Sl.of (some (b33, 0)) 3 3)]) rfl ?_
  rintro _ H37 ⟨r35, r36, rfl, h⟩
  refine GL.val trivial rfl (OV.move (v := .tuple #[slv r35, .int .i64 r36]) rfl) ?_
  refine GL.val trivial rfl (OV.extract (v := slv r35) rfl rfl) ?_
  refine GL.val trivial rfl (OV.extract (v := .int .i64 r36) rfl rfl) ?_
  refine GL.val trivial rfl (OV.assign (v := slv r35) rfl) ?_
  refine GL.val trivial rfl (OV.assign (v := .int .i64 r36) rfl) ?_
  refine GL.nil ?_
  refine GC.seq ?_
  refine GC.region ?_
  refine GL.val trivial rfl (OV.move (v := pv r10) rfl) ?_
  refine GL.call h trivial rfl ok_intern_Table_At (vs := [pv r10, .int .i64 2]) rfl ?_
  rintro _ H40 ⟨r38, r39, rfl, h⟩
  refine GL.val trivial rfl (OV.move (v := .tuple #[.agg (T_api_Value.c r38).toArray, .int .i64 r39]) rfl) ?_
  refine GL.val trivial rfl (OV.extract (v := .agg (T_api_Value.c r38).toArray) rfl rfl) ?_
  refine GL.val trivial rfl (OV.extract (v := .int .i64 r39) rfl rfl) ?_
  refine GL.alloc (cs := T_api_Value.c T_api_Value.zero) h trivial rfl rfl rfl ?_
  intro b41 H42 h
  refine GL.storeT (p := (b41, 0)) (vs := T_api_Value.c r38) h trivial rfl rfl rfl rfl ?_
  intro H43 h
  refine GL.val trivial rfl (OV.assign (v := .int .i64 r39) rfl) ?_
  refine GL.nil ?_
  refine GC.seq ?_
  refine GC.region ?_
  refine GL.val trivial rfl (OV.move (v := pv r10) rfl) ?_
  refine GL.call h trivial rfl ok_intern_Table_At (vs := [pv r10, .int .i64 3]) rfl ?_
  rintro _ H46 ⟨r44, r45, rfl, h⟩
  refine GL.val trivial rfl (OV.move (v := .tuple #[.agg (T_api_Value.c r44).toArray, .int .i64 r45]) rfl) ?_
  refine GL.val trivial rfl (OV.extract (v := .agg (T_api_Value.c r44).toArray) rfl rfl) ?_
  refine GL.val trivial rfl (OV.extract (v := .int .i64 r45) rfl rfl) ?_
  refine GL.alloc (cs := T_api_Value.c T_api_Value.zero) h trivial rfl rfl rfl ?_
  intro b47 H48 h
  refine GL.storeT (p := (b47, 0)) (vs := T_api_Value.c r44) h trivial rfl rfl rfl rfl ?_
  intro H49 h
  refine GL.val trivial rfl (OV.assign (v := .int .i64 r45) rfl) ?_
  refine GL.nil ?_
  refine GC.seq ?_
  refine GC.region ?_
  refine GL.val trivial rfl (OV.move (v := .int .i64 r15) rfl) ?_
  refine GL.val trivial rfl (OV.ibin (v := .bool ((r15 : Int) == 0)) rfl rfl rfl) ?_
  refine GL.val trivial rfl (OV.move (v := .bool ((r15 : Int) == 0)) rfl) ?_
  refine GL.cut0 3 [(63, .bool (((r15 : Int) == 0) && ((r20 : Int) == 0))), (3, pv (some (b5, 0))), (4, pv r10), (5, .int .i64 r14), (7, .int .i64 r19), (9, .int .i64 r24), (10, .int .i64 r25), (11, slv r35), (12, .int .i64 r36), (13, pv (some (b41, 0))), (14, .int .i64 r39), (16, .int .i64 r45)] ?_ ?_
  · rcases Bool.eq_false_or_eq_true ((r15 : Int) == 0) with hc50 | hc50
    · skip
      refine GL.val ⟨_, _, rfl, rfl, hc50⟩ rfl (OV.move (v := .int .i64 r20) rfl) ?_
      refine GL.val ⟨_, _, rfl, rfl, hc50⟩ rfl (OV.ibin (v := .bool ((r20 : Int) == 0)) rfl rfl rfl) ?_
      refine GL.val trivial rfl (OV.pickT (b := (r15 : Int) == 0) (v := .bool ((r20 : Int) == 0)) rfl hc50 rfl) ?_
      exact GL.jump0 (fun _ _ h => h) () rfl ⟨(by rw [hc50]; rfl), rfl, rfl, rfl, rfl, rfl, rfl, rfl, rfl, rfl, rfl, rfl, trivial⟩
    · skip
      refine GL.skip ⟨_, rfl, .inl ⟨_, rfl, hc50⟩⟩ rfl ?_
      refine GL.skip ⟨_, rfl, .inl ⟨_, rfl, hc50⟩⟩ rfl ?_
      refine GL.val trivial rfl (OV.pickF (b := (r15 : Int) == 0) (v := .bool false) rfl hc50 rfl) ?_
      exact GL.jump0 (fun _ _ h => h) () rfl ⟨(by rw [hc50]; rfl), rfl, rfl, rfl, rfl, rfl, rfl, rfl, rfl, rfl, rfl, rfl, trivial⟩
  refine GL.val trivial rfl (OV.move (v := .bool (((r15 : Int) == 0) && ((r20 : Int) == 0))) rfl) ?_
  refine GL.cut0 3 [(67, .bool ((((r15 : Int) == 0) && ((r20 : Int) == 0)) && ((r25 : Int) == 0))), (3, pv (some (b5, 0))), (4, pv r10), (5, .int .i64 r14), (7, .int .i64 r19), (9, .int .i64 r24), (11, slv r35), (12, .int .i64 r36), (13, pv (some (b41, 0))), (14, .int .i64 r39), (16, .int .i64 r45)] ?_ ?_
  · rcases Bool.eq_false_or_eq_true (((r15 : Int) == 0) && ((r20 : Int) == 0)) with hc51 | hc51
    · skip
      refine GL.val ⟨_, _, rfl, rfl, hc51⟩ rfl (OV.move (v := .int .i64 r25) rfl) ?_
      refine GL.val ⟨_, _, rfl, rfl, hc51⟩ rfl (OV.ibin (v := .bool ((r25 : Int) == 0)) rfl rfl rfl) ?_
      refine GL.val trivial rfl (OV.pickT (b := ((r15 : Int) == 0) && ((r20 : Int) == 0)) (v := .bool ((r25 : Int) == 0)) rfl hc51 rfl) ?_
      exact GL.jump0 (fun _ _ h => h) () rfl ⟨(by rw [hc51]; rfl), rfl, rfl, rfl, rfl, rfl, rfl, rfl, rfl, rfl, rfl, trivial⟩
    · skip
      refine GL.skip ⟨_, rfl, .inl ⟨_, rfl, hc51⟩⟩ rfl ?_
      refine GL.skip ⟨_, rfl, .inl ⟨_, rfl, hc51⟩⟩ rfl ?_
      refine GL.val trivial rfl (OV.pickF (b := ((r15 : Int) == 0) && ((r20 : Int) == 0)) (v := .bool false) rfl hc51 rfl) ?_
      exact GL.jump0 (fun _ _ h => h) () rfl ⟨(by rw [hc51]; rfl), rfl, rfl, rfl, rfl, rfl, rfl, rfl, rfl, rfl, rfl, trivial⟩
  refine GL.val trivial rfl (OV.move (v := .bool ((((r15 : Int) == 0) && ((r20 : Int) == 0)) && ((r25 : Int) == 0))) rfl) ?_
  refine GL.cut0 3 [(71, .bool (((((r15 : Int) == 0) && ((r20 : Int) == 0)) && ((r25 : Int) == 0)) && ((r36 : Int) == 0))), (3, pv (some (b5, 0))), (4, pv r10), (5, .int .i64 r14), (7, .int .i64 r19), (9, .int .i64 r24), (11, slv r35), (13, pv (some (b41, 0))), (14, .int .i64 r39), (16, .int .i64 r45)] ?_ ?_
  · rcases Bool.eq_false_or_eq_true ((((r15 : Int) == 0) && ((r20 : Int) == 0)) && ((r25 : Int) == 0)) with hc52 | hc52
    · skip
      refine GL.val ⟨_, _, rfl, rfl, hc52⟩ rfl (OV.move (v := .int .i64 r36) rfl) ?_
      refine GL.val ⟨_, _, rfl, rfl, hc52⟩ rfl (OV.ibin (v := .bool ((r36 : Int) == 0)) rfl rfl rfl) ?_
      refine GL.val trivial rfl (OV.pickT (b := (((r15 : Int) == 0) && ((r20 : Int) == 0)) && ((r25 : Int) == 0)) (v := .bool ((r36 : Int) == 0)) rfl hc52 rfl) ?_
      exact GL.jump0 (fun _ _ h => h) () rfl ⟨(by rw [hc52]; rfl), rfl, rfl, rfl, rfl, rfl, rfl, rfl, rfl, rfl, trivial⟩
    · skip
      refine GL.skip ⟨_, rfl, .inl ⟨_, rfl, hc52⟩⟩ rfl ?_
      refine GL.skip ⟨_, rfl, .inl ⟨_, rfl, hc52⟩⟩ rfl ?_
      refine GL.val trivial rfl (OV.pickF (b := (((r15 : Int) == 0) && ((r20 : Int) == 0)) && ((r25 : Int) == 0)) (v := .bool false) rfl hc52 rfl) ?_
      exact GL.jump0 (fun _ _ h => h) () rfl ⟨(by rw [hc52]; rfl), rfl, rfl, rfl, rfl, rfl, rfl, rfl, rfl, rfl, trivial⟩
  refine GL.val trivial rfl (OV.move (v := .bool (((((r15 : Int) == 0) && ((r20 : Int) == 0)) && ((r25 : Int) == 0)) && ((r36 : Int) == 0))) rfl) ?_
  refine GL.cut0 3 [(75, .bool ((((((r15 : Int) == 0) && ((r20 : Int) == 0)) && ((r25 : Int) == 0)) && ((r36 : Int) == 0)) && ((r39 : Int) == 0))), (3, pv (some (b5, 0))), (4, pv r10), (5, .int .i64 r14), (7, .int .i64 r19), (9, .int .i64 r24), (11, slv r35), (13, pv (some (b41, 0))), (16, .int .i64 r45)] ?_ ?_
  · rcases Bool.eq_false_or_eq_true (((((r15 : Int) == 0) && ((r20 : Int) == 0)) && ((r25 : Int) == 0)) && ((r36 : Int) == 0)) with hc53 | hc53
    · skip
      refine GL.val ⟨_, _, rfl, rfl, hc53⟩ rfl (OV.move (v := .int .i64 r39) rfl) ?_
      refine GL.val ⟨_, _, rfl, rfl, hc53⟩ rfl (OV.ibin (v := .bool ((r39 : Int) == 0)) rfl rfl rfl) ?_
      refine GL.val trivial rfl (OV.pickT (b := ((((r15 : Int) == 0) && ((r20 : Int) == 0)) && ((r25 : Int) == 0)) && ((r36 : Int) == 0)) (v := .bool ((r39 : Int) == 0)) rfl hc53 rfl) ?_
      exact GL.jump0 (fun _ _ h => h) () rfl ⟨(by rw [hc53]; rfl), rfl, rfl, rfl, rfl, rfl, rfl, rfl, rfl, trivial⟩
    · skip
      refine GL.skip ⟨_, rfl, .inl ⟨_, rfl, hc53⟩⟩ rfl ?_
      refine GL.skip ⟨_, rfl, .inl ⟨_, rfl, hc53⟩⟩ rfl ?_
      refine GL.val trivial rfl (OV.pickF (b := ((((r15 : Int) == 0) && ((r20 : Int) == 0)) && ((r25 : Int) == 0)) && ((r36 : Int) == 0)) (v := .bool false) rfl hc53 rfl) ?_
      exact GL.jump0 (fun _ _ h => h) () rfl ⟨(by rw [hc53]; rfl), rfl, rfl, rfl, rfl, rfl, rfl, rfl, rfl, trivial⟩
  refine GL.val trivial rfl (OV.move (v := .bool ((((((r15 : Int) == 0) && ((r20 : Int) == 0)) && ((r25 : Int) == 0)) && ((r36 : Int) == 0)) && ((r39 : Int) == 0))) rfl) ?_
  refine GL.cut0 3 [(79, .bool (((((((r15 : Int) == 0) && ((r20 : Int) == 0)) && ((r25 : Int) == 0)) && ((r36 : Int) == 0)) && ((r39 : Int) == 0)) && ((r45 : Int) == 5))), (3, pv (some (b5, 0))), (4, pv r10), (5, .int .i64 r14), (7, .int .i64 r19), (9, .int .i64 r24), (11, slv r35), (13, pv (some (b41, 0)))] ?_ ?_
  · rcases Bool.eq_false_or_eq_true ((((((r15 : Int) == 0) && ((r20 : Int) == 0)) && ((r25 : Int) == 0)) && ((r36 : Int) == 0)) && ((r39 : Int) == 0)) with hc54 | hc54
    · skip
      refine GL.val ⟨_, _, rfl, rfl, hc54⟩ rfl (OV.move (v := .int .i64 r45) rfl) ?_
      refine GL.val ⟨_, _, rfl, rfl, hc54⟩ rfl (OV.ibin (v := .bool ((r45 : Int) == 5)) rfl rfl rfl) ?_
      refine GL.val trivial rfl (OV.pickT (b := (((((r15 : Int) == 0) && ((r20 : Int) == 0)) && ((r25 : Int) == 0)) && ((r36 : Int) == 0)) && ((r39 : Int) == 0)) (v := .bool ((r45 : Int) == 5)) rfl hc54 rfl) ?_
      exact GL.jump0 (fun _ _ h => h) () rfl ⟨(by rw [hc54]; rfl), rfl, rfl, rfl, rfl, rfl, rfl, rfl, trivial⟩
    · skip
      refine GL.skip ⟨_, rfl, .inl ⟨_, rfl, hc54⟩⟩ rfl ?_
      refine GL.skip ⟨_, rfl, .inl ⟨_, rfl, hc54⟩⟩ rfl ?_
      refine GL.val trivial rfl (OV.pickF (b := (((((r15 : Int) == 0) && ((r20 : Int) == 0)) && ((r25 : Int) == 0)) && ((r36 : Int) == 0)) && ((r39 : Int) == 0)) (v := .bool false) rfl hc54 rfl) ?_
      exact GL.jump0 (fun _ _ h => h) () rfl ⟨(by rw [hc54]; rfl), rfl, rfl, rfl, rfl, rfl, rfl, rfl, trivial⟩
  refine GL.val trivial rfl (OV.move (v := .bool (((((((r15 : Int) == 0) && ((r20 : Int) == 0)) && ((r25 : Int) == 0)) && ((r36 : Int) == 0)) && ((r39 : Int) == 0)) && ((r45 : Int) == 5))) rfl) ?_
  refine GL.cut0 3 [(83, .bool ((((((((r15 : Int) == 0) && ((r20 : Int) == 0)) && ((r25 : Int) == 0)) && ((r36 : Int) == 0)) && ((r39 : Int) == 0)) && ((r45 : Int) == 5)) && ((r14 : Int) == 0))), (3, pv (some (b5, 0))), (4, pv r10), (7, .int .i64 r19), (9, .int .i64 r24), (11, slv r35), (13, pv (some (b41, 0)))] ?_ ?_
  · rcases Bool.eq_false_or_eq_true (((((((r15 : Int) == 0) && ((r20 : Int) == 0)) && ((r25 : Int) == 0)) && ((r36 : Int) == 0)) && ((r39 : Int) == 0)) && ((r45 : Int) == 5)) with hc55 | hc55
    · skip
      refine GL.val ⟨_, _, rfl, rfl, hc55⟩ rfl (OV.move (v := .int .i64 r14) rfl) ?_
      refine GL.val ⟨_, _, rfl, rfl, hc55⟩ rfl (OV.ibin (v := .bool ((r14 : Int) == 0)) rfl rfl rfl) ?_
      refine GL.val trivial rfl (OV.pickT (b := ((((((r15 : Int) == 0) && ((r20 : Int) == 0)) && ((r25 : Int) == 0)) && ((r36 : Int) == 0)) && ((r39 : Int) == 0)) && ((r45 : Int) == 5)) (v := .bool ((r14 : Int) == 0)) rfl hc55 rfl) ?_
      exact GL.jump0 (fun _ _ h => h) () rfl ⟨(by rw [hc55]; rfl), rfl, rfl, rfl, rfl, rfl, rfl, trivial⟩
    · skip
      refine GL.skip ⟨_, rfl, .inl ⟨_, rfl, hc55⟩⟩ rfl ?_
      refine GL.skip ⟨_, rfl, .inl ⟨_, rfl, hc55⟩⟩ rfl ?_
      refine GL.val trivial rfl (OV.pickF (b := ((((((r15 : Int) == 0) && ((r20 : Int) == 0)) && ((r25 : Int) == 0)) && ((r36 : Int) == 0)) && ((r39 : Int) == 0)) && ((r45 : Int) == 5)) (v := .bool false) rfl hc55 rfl) ?_
      exact GL.jump0 (fun _ _ h => h) () rfl ⟨(by rw [hc55]; rfl), rfl, rfl, rfl, rfl, rfl, rfl, trivial⟩
  refine GL.val trivial rfl (OV.move (v := .bool ((((((((r15 : Int) == 0) && ((r20 : Int) == 0)) && ((r25 : Int) == 0)) && ((r36 : Int) == 0)) && ((r39 : Int) == 0)) && ((r45 : Int) == 5)) && ((r14 : Int) == 0))) rfl) ?_
  refine GL.cut0 3 [(87, .bool (((((((((r15 : Int) == 0) && ((r20 : Int) == 0)) && ((r25 : Int) == 0)) && ((r36 : Int) == 0)) && ((r39 : Int) == 0)) && ((r45 : Int) == 5)) && ((r14 : Int) == 0)) && ((r19 : Int) == 1))), (3, pv (some (b5, 0))), (4, pv r10), (9, .int .i64 r24), (11, slv r35), (13, pv (some (b41, 0)))] ?_ ?_
  · rcases Bool.eq_false_or_eq_true ((((((((r15 : Int) == 0) && ((r20 : Int) == 0)) && ((r25 : Int) == 0)) && ((r36 : Int) == 0)) && ((r39 : Int) == 0)) && ((r45 : Int) == 5)) && ((r14 : Int) == 0)) with hc56 | hc56
    · skip
      refine GL.val ⟨_, _, rfl, rfl, hc56⟩ rfl (OV.move (v := .int .i64 r19) rfl) ?_
      refine GL.val ⟨_, _, rfl, rfl, hc56⟩ rfl (OV.ibin (v := .bool ((r19 : Int) == 1)) rfl rfl rfl) ?_
      refine GL.val trivial rfl (OV.pickT (b := (((((((r15 : Int) == 0) && ((r20 : Int) == 0)) && ((r25 : Int) == 0)) && ((r36 : Int) == 0)) && ((r39 : Int) == 0)) && ((r45 : Int) == 5)) && ((r14 : Int) == 0)) (v := .bool ((r19 : Int) == 1)) rfl hc56 rfl) ?_
      exact GL.jump0 (fun _ _ h => h) () rfl ⟨(by rw [hc56]; rfl), rfl, rfl, rfl, rfl, rfl, trivial⟩
    · skip
      refine GL.skip ⟨_, rfl, .inl ⟨_, rfl, hc56⟩⟩ rfl ?_
      refine GL.skip ⟨_, rfl, .inl ⟨_, rfl, hc56⟩⟩ rfl ?_
      refine GL.val trivial rfl (OV.pickF (b := (((((((r15 : Int) == 0) && ((r20 : Int) == 0)) && ((r25 : Int) == 0)) && ((r36 : Int) == 0)) && ((r39 : Int) == 0)) && ((r45 : Int) == 5)) && ((r14 : Int) == 0)) (v := .bool false) rfl hc56 rfl) ?_
      exact GL.jump0 (fun _ _ h => h) () rfl ⟨(by rw [hc56]; rfl), rfl, rfl, rfl, rfl, rfl, trivial⟩
  refine GL.val trivial rfl (OV.move (v := .bool (((((((((r15 : Int) == 0) && ((r20 : Int) == 0)) && ((r25 : Int) == 0)) && ((r36 : Int) == 0)) && ((r39 : Int) == 0)) && ((r45 : Int) == 5)) && ((r14 : Int) == 0)) && ((r19 : Int) == 1))) rfl) ?_
  refine GL.cut0 3 [(91, .bool ((((((((((r15 : Int) == 0) && ((r20 : Int) == 0)) && ((r25 : Int) == 0)) && ((r36 : Int) == 0)) && ((r39 : Int) == 0)) && ((r45 : Int) == 5)) && ((r14 : Int) == 0)) && ((r19 : Int) == 1)) && ((r24 : Int) == 0))), (3, pv (some (b5, 0))), (4, pv r10), (11, slv r35), (13, pv (some (b41, 0)))] ?_ ?_
  · rcases Bool.eq_false_or_eq_true (((((((((r15 : Int) == 0) && ((r20 : Int) == 0)) && ((r25 : Int) == 0)) && ((r36 : Int) == 0)) && ((r39 : Int) == 0)) && ((r45 : Int) == 5)) && ((r14 : Int) == 0)) && ((r19 : Int) == 1)) with hc57 | hc57
    · skip
      refine GL.val ⟨_, _, rfl, rfl, hc57⟩ rfl (OV.move (v := .int .i64 r24) rfl) ?_
      refine GL.val ⟨_, _, rfl, rfl, hc57⟩ rfl (OV.ibin (v := .bool ((r24 : Int) == 0)) rfl rfl rfl) ?_
      refine GL.val trivial rfl (OV.pickT (b := ((((((((r15 : Int) == 0) && ((r20 : Int) == 0)) && ((r25 : Int) == 0)) && ((r36 : Int) == 0)) && ((r39 : Int) == 0)) && ((r45 : Int) == 5)) && ((r14 : Int) == 0)) && ((r19 : Int) == 1)) (v := .bool ((r24 : Int) == 0)) rfl hc57 rfl) ?_
      exact GL.jump0 (fun _ _ h => h) () rfl ⟨(by rw [hc57]; rfl), rfl, rfl, rfl, rfl, trivial⟩
    · skip
      refine GL.skip ⟨_, rfl, .inl ⟨_, rfl, hc57⟩⟩ rfl ?_
      refine GL.skip ⟨_, rfl, .inl ⟨_, rfl, hc57⟩⟩ rfl ?_
      refine GL.val trivial rfl (OV.pickF (b := ((((((((r15 : Int) == 0) && ((r20 : Int) == 0)) && ((r25 : Int) == 0)) && ((r36 : Int) == 0)) && ((r39 : Int) == 0)) && ((r45 : Int) == 5)) && ((r14 : Int) == 0)) && ((r19 : Int) == 1)) (v := .bool false) rfl hc57 rfl) ?_
      exact GL.jump0 (fun _ _ h => h) () rfl ⟨(by rw [hc57]; rfl), rfl, rfl, rfl, rfl, trivial⟩
  refine GL.val trivial rfl (OV.move (v := .bool ((((((((((r15 : Int) == 0) && ((r20 : Int) == 0)) && ((r25 : Int) == 0)) && ((r36 : Int) == 0)) && ((r39 : Int) == 0)) && ((r45 : Int) == 5)) && ((r14 : Int) == 0)) && ((r19 : Int) == 1)) && ((r24 : Int) == 0))) rfl) ?_
  obtain ⟨J59, h, hR60⟩ := h
  refine GL.cut (α := Bool) 4 J59 (fun b58 => [(96, .bool b58), (3, pv (some (b5, 0))), (4, pv r10), (13, pv (some (b41, 0)))]) ?_ ?_
  · rcases Bool.eq_false_or_eq_true ((((((((((r15 : Int) == 0) && ((r20 : Int) == 0)) && ((r25 : Int) == 0)) && ((r36 : Int) == 0)) && ((r39 : Int) == 0)) && ((r45 : Int) == 5)) && ((r14 : Int) == 0)) && ((r19 : Int) == 1)) && ((r24 : Int) == 0)) with hc61 | hc61
    · skip
      replace h := And.left h hc61
      refine GL.val ⟨_, _, rfl, rfl, hc61⟩ rfl (OV.move (v := slv r35) rfl) ?_
      refine GL.buildSlice (cs := [.int .i64 1, .int .i64 2, .int .i64 0]) h ⟨_, _, rfl, rfl, hc61⟩ rfl (vs := [(0, .int .i64 1), (1, .int .i64 2), (2, .int .i64 0)]) rfl ⟨3, fun _ => by kernel_rfl⟩ ?_
      intro b62 H63 h
      refine GL.call h ⟨_, _, rfl, rfl, hc61⟩ rfl ok_ref04_Ints (vs := [slv r35, slv (Sl.of (some (b62, 0)) 3 3)]) rfl ?_
      rintro _ H65 ⟨r64, rfl, h⟩
      refine GL.val trivial rfl (OV.pickT (b := (((((((((r15 : Int) == 0) && ((r20 : Int) == 0)) && ((r25 : Int) == 0)) && ((r36 : Int) == 0)) && ((r39 : Int) == 0)) && ((r45 : Int) == 5)) && ((r14 : Int) == 0)) && ((r19 : Int) == 1)) && ((r24 : Int) == 0)) (v := .bool r64) rfl hc61 rfl) ?_
      exact GL.jump (fun _ _ h => h) r64 h ⟨rfl, rfl, rfl, rfl, trivial⟩
    · skip
      replace h := And.right h hc61
      refine GL.skip ⟨_, rfl, .inl ⟨_, rfl, hc61⟩⟩ rfl ?_
      refine GL.skip ⟨_, rfl, .inl ⟨_, rfl, hc61⟩⟩ rfl ?_
      refine GL.skip ⟨_, rfl, .inl ⟨_, rfl, hc61⟩⟩ rfl ?_
      refine GL.val trivial rfl (OV.pickF (b := (((((((((r15 : Int) == 0) && ((r20 : Int) == 0)) && ((r25 : Int) == 0)) && ((r36 : Int) == 0)) && ((r39 : Int) == 0)) && ((r45 : Int) == 5)) && ((r14 : Int) == 0)) && ((r19 : Int) == 1)) && ((r24 : Int) == 0)) (v := .bool false) rfl hc61 rfl) ?_
      exact GL.jump (fun _ _ h => h) false h ⟨rfl, rfl, rfl, rfl, trivial⟩
  intro b58 H66 h
  replace h := hR60 b58 H66 h
  refine GL.val trivial rfl (OV.move (v := .bool b58) rfl) ?_
  obtain ⟨J68, h, hR69⟩ := h
  refine GL.cut (α := Bool) 4 J68 (fun b67 => [(101, .bool b67), (4, pv r10)]) ?_ ?_
  · rcases Bool.eq_false_or_eq_true b58 with hc70 | hc70
    · skip
      replace h := And.left h hc70
      obtain ⟨x71, hr72, h⟩ := h
      refine GL.val ⟨_, _, rfl, rfl, hc70⟩ rfl (OV.loadT (p := (b41, 0)) (cs := T_api_Value.c x71) rfl rfl rfl hr72) ?_
      obtain ⟨x73, hr74, h⟩ := h
      refine GL.val ⟨_, _, rfl, rfl, hc70⟩ rfl (OV.loadT (p := (b5, 0)) (cs := T_api_Value.c x73) rfl rfl rfl hr74) ?_
      refine GL.call h ⟨_, _, rfl, rfl, hc70⟩ rfl ok_ref02_Same (vs := [.agg (T_api_Value.c x71).toArray, .agg (T_api_Value.c x73).toArray]) rfl ?_
      rintro _ H76 ⟨r75, rfl, h⟩
      refine GL.val trivial rfl (OV.pickT (b := b58) (v := .bool r75) rfl hc70 rfl) ?_
      exact GL.jump (fun _ _ h => h) r75 h ⟨rfl, rfl, trivial⟩
    · skip
      replace h := And.right h hc70
      refine GL.skip ⟨_, rfl, .inl ⟨_, rfl, hc70⟩⟩ rfl ?_
      refine GL.skip ⟨_, rfl, .inl ⟨_, rfl, hc70⟩⟩ rfl ?_
      refine GL.skip ⟨_, rfl, .inl ⟨_, rfl, hc70⟩⟩ rfl ?_
      refine GL.val trivial rfl (OV.pickF (b := b58) (v := .bool false) rfl hc70 rfl) ?_
      exact GL.jump (fun _ _ h => h) false h ⟨rfl, rfl, trivial⟩
  intro b67 H77 h
  replace h := hR69 b67 H77 h
  refine GL.val trivial rfl (OV.move (v := .bool b67) rfl) ?_
  obtain ⟨J79, h, hR80⟩ := h
  refine GL.cut (α := Bool) 4 J79 (fun b78 => [(106, .bool b78)]) ?_ ?_
  · rcases Bool.eq_false_or_eq_true b67 with hc81 | hc81
    · skip
      replace h := And.left h hc81
      refine GL.val ⟨_, _, rfl, rfl, hc81⟩ rfl (OV.move (v := pv r10) rfl) ?_
      refine GL.call h ⟨_, _, rfl, rfl, hc81⟩ rfl ok_intern_Table_Len (vs := [pv r10]) rfl ?_
      rintro _ H83 ⟨r82, rfl, h⟩
      refine GL.val ⟨_, _, rfl, rfl, hc81⟩ rfl (OV.ibin (v := .bool ((r82 : Int) == 3)) rfl rfl rfl) ?_
      refine GL.val trivial rfl (OV.pickT (b := b67) (v := .bool ((r82 : Int) == 3)) rfl hc81 rfl) ?_
      exact GL.jump (fun _ _ h => h) ((r82 : Int) == 3) h ⟨rfl, trivial⟩
    · skip
      replace h := And.right h hc81
      refine GL.skip ⟨_, rfl, .inl ⟨_, rfl, hc81⟩⟩ rfl ?_
      refine GL.skip ⟨_, rfl, .inl ⟨_, rfl, hc81⟩⟩ rfl ?_
      refine GL.skip ⟨_, rfl, .inl ⟨_, rfl, hc81⟩⟩ rfl ?_
      refine GL.val trivial rfl (OV.pickF (b := b67) (v := .bool false) rfl hc81 rfl) ?_
      exact GL.jump (fun _ _ h => h) false h ⟨rfl, trivial⟩
  intro b78 H84 h
  replace h := hR80 b78 H84 h
  refine GL.val trivial rfl (OV.assign (v := .bool b78) rfl) ?_
  refine GL.nil ?_
  exact GC.ret (fun _ _ hf hs => post_tmp1 rfl rfl hf hs ⟨b78, rfl, h⟩)

def sh_intern_New (C : Ctx) (K : Option (Nat × Nat) → Heap → Prop) (H : Heap) : Prop :=
  mkM (fun b1 H2 =>
 nw (T_intern_Table.c (⟨Sl.nil, (some b1)⟩ : T_intern_Table)) (fun b3 H4 =>
 K (some (b3, 0)) H4) H2) H

theorem ad_intern_New (C : Ctx) (K : Option (Nat × Nat) → Heap → Prop) (H : Heap) (h : sh_intern_New C  K H) : c_intern_New C  K H := by
  refine Spec.enter Tryd.func7 rfl Tryd.ntmps7 rfl ?_
  refine GC.sub [] trivial ?_
  refine GC.seq ?_
  refine GC.region ?_
  refine GL.val trivial rfl (OV.assign (v := pv none) rfl) ?_
  refine GL.nil ?_
  refine GC.seq ?_
  refine GC.region ?_
  refine GL.makeMap h trivial rfl ?_
  intro b1 H2 h
  refine GL.val trivial rfl (OV.build (vs := [(1, mv (some b1))]) (v := .agg (T_intern_Table.c (⟨Sl.nil, (some b1)⟩ : T_intern_Table)).toArray) rfl (fun _ => by kernel_rfl)) ?_
  refine GL.box (v := .agg (T_intern_Table.c (⟨Sl.nil, (some b1)⟩ : T_intern_Table)).toArray) (cs := T_intern_Table.c (⟨Sl.nil, (some b1)⟩ : T_intern_Table)) h trivial rfl rfl rfl ?_
  intro b3 H4 h
  refine GL.val trivial rfl (OV.assign (v := pv (some (b3, 0))) rfl) ?_
  refine GL.nil ?_
  exact GC.ret (fun _ _ hf hs => post_tmp1 rfl rfl hf hs ⟨(some (b3, 0)), rfl, h⟩)

def sh_intern_Table_Row (C : Ctx) (p_t : Option (Nat × Nat)) (p_l : Sl) (K : Sl → Int → Heap → Prop) (H : Heap) : Prop :=
  ift (Option.isNone p_t)
 (K Sl.nil 2 H)
 (lp (α := Sl × Int) (Sl.nil, 0) H (fun x2 J3 H4 =>
 ift (decide ((x2.2 : Int) < (Sl.len p_l : Int)))
 (ixa p_l x2.2 fun p6 =>
 ldI H4 .i64 (p6.1, p6.2 + (x2.2 : Int).toNat * 1) fun x11 =>
 jn (α := Bool) (fun b13 H21 =>
 ift b13
 (K Sl.nil 5 H21)
 (nck p_t fun p23 =>
 ldL H21 (p23.1, p23.2 + 0) fun x25 =>
 slL x25 x11 (w .i64 (x11 + 1)) (Sl.cap x25 : Int) 4 fun t27 =>
 c_intern_own C t27 (fun r33 H34 =>
 apS (T_api_Value.c T_api_Value.zero) 56 x2.1 r33 (fun r35 H36 =>
 J3 (r35, (w .i64 (x2.2 + 1))) H36) H34) H21))
 (fun J14 => ift (decide ((x11 : Int) < 0))
 (J14 true H4)
 (nck p_t fun p17 =>
 ldL H4 (p17.1, p17.2 + 0) fun x19 =>
 J14 (decide ((x11 : Int) ≥ (Sl.len x19 : Int))) H4)))
 (K x2.1 0 H4)))

theorem ad_intern_Table_Row (C : Ctx) (p_t : Option (Nat × Nat)) (p_l : Sl) (K : Sl → Int → Heap → Prop) (H : Heap) (h : sh_intern_Table_Row C p_t p_l K H) : c_intern_Table_Row C p_t p_l K H := by
  refine Spec.enter Tryd.func9 rfl Tryd.ntmps9 rfl ?_
  refine GC.sub [(0, pv p_t), (1, slv p_l)] ⟨rfl, rfl, trivial⟩ ?_
  refine GC.seq ?_
  refine GC.region ?_
  refine GL.val trivial rfl (OV.assign (v := slv Sl.nil) rfl) ?_
  refine GL.val trivial rfl (OV.assign (v := .int .i64 0) rfl) ?_
  refine GL.nil ?_
  refine GC.seq ?_
  refine GC.seq ?_
  refine GC.region ?_
  refine GL.val trivial rfl (OV.move (v := pv p_t) rfl) ?_
  refine GL.val trivial rfl (OV.eqlNil (p := p_t) rfl rfl rfl) ?_
  refine GL.nil ?_
  refine GC.cond (b := Option.isNone p_t) rfl (fun hc1 => ?_) (fun hc1 => ?_)
  · replace h := And.left h hc1
    refine GC.seq ?_
    refine GC.region ?_
    refine GL.val trivial rfl (OV.assign (v := slv Sl.nil) rfl) ?_
    refine GL.val trivial rfl (OV.assign (v := .int .i64 2) rfl) ?_
    refine GL.nil ?_
    exact GC.ret (fun _ _ hf hs => post_tmp2 rfl rfl rfl hf hs ⟨Sl.nil, 2, rfl, h⟩)
  · replace h := And.right h hc1
    refine GC.skip ?_
    refine GC.seq ?_
    refine GC.region ?_
    refine GL.val trivial rfl (OV.assign (v := slv Sl.nil) rfl) ?_
    refine GL.nil ?_
    refine GC.seq ?_
    refine GC.seq ?_
    refine GC.region ?_
    refine GL.val trivial rfl (OV.move (v := slv p_l) rfl) ?_
    refine GL.val trivial rfl (OV.lenSl (s := p_l) rfl rfl) ?_
    refine GL.val trivial rfl (OV.move (v := .int .i64 0) rfl) ?_
    refine GL.nil ?_
    refine GC.block ?_
    refine GC.loop (α := Sl × Int) h (fun x2 => [(6, slv x2.1), (13, .int .i64 x2.2), (0, pv p_t), (11, slv p_l), (12, .int .i64 (Sl.len p_l : Int))]) ⟨rfl, rfl, rfl, rfl, rfl, trivial⟩ ?_
    intro x2 H4 J3 h
    refine GC.seq ?_
    refine GC.region ?_
    refine GL.val trivial rfl (OV.ibin (v := .bool (decide ((x2.2 : Int) < (Sl.len p_l : Int)))) rfl rfl rfl) ?_
    refine GL.nil ?_
    refine GC.seq ?_
    refine GC.cond (b := decide ((x2.2 : Int) < (Sl.len p_l : Int))) rfl (fun hc5 => ?_) (fun hc5 => ?_)
    · replace h := And.left h hc5
      refine GC.skip ?_
      refine GC.seq ?_
      refine GC.block ?_
      refine GC.seq ?_
      refine GC.region ?_
      obtain ⟨p6, ha7, hb8, hc9, hd10, h⟩ := h
      refine GL.val trivial rfl (OV.indexAddr (s := p_l) rfl rfl rfl rfl ha7 hb8 hc9 hd10) ?_
      obtain ⟨x11, hr12, h⟩ := h
      refine GL.val trivial rfl (OV.load (p := (p6.1, p6.2 + (x2.2 : Int).toNat * 1)) rfl rfl hr12) ?_
      refine GL.val trivial rfl (OV.assign (v := .int .i64 x11) rfl) ?_
      refine GL.nil ?_
      refine GC.seq ?_
      refine GC.seq ?_
      refine GC.region ?_
      refine GL.val trivial rfl (OV.move (v := .int .i64 x11) rfl) ?_
      refine GL.val trivial rfl (OV.ibin (v := .bool (decide ((x11 : Int) < 0))) rfl rfl rfl) ?_
      refine GL.val trivial rfl (OV.move (v := .bool (decide ((x11 : Int) < 0))) rfl) ?_
      obtain ⟨J14, h, hR15⟩ := h
      refine GL.cut (α := Bool) 8 J14 (fun b13 => [(27, .bool b13), (0, pv p_t), (6, slv x2.1), (8, .int .i64 x11), (11, slv p_l), (12, .int .i64 (Sl.len p_l : Int)), (13, .int .i64 x2.2)]) ?_ ?_
      · rcases Bool.eq_false_or_eq_true (decide ((x11 : Int) < 0)) with hc16 | hc16
        · skip
          replace h := And.left h hc16
          refine GL.skip ⟨_, rfl, .inl ⟨_, rfl, hc16⟩⟩ rfl ?_
          refine GL.skip ⟨_, rfl, .inl ⟨_, rfl, hc16⟩⟩ rfl ?_
          refine GL.skip ⟨_, rfl, .inl ⟨_, rfl, hc16⟩⟩ rfl ?_
          refine GL.skip ⟨_, rfl, .inl ⟨_, rfl, hc16⟩⟩ rfl ?_
          refine GL.skip ⟨_, rfl, .inl ⟨_, rfl, hc16⟩⟩ rfl ?_
          refine GL.skip ⟨_, rfl, .inl ⟨_, rfl, hc16⟩⟩ rfl ?_
          refine GL.skip ⟨_, rfl, .inl ⟨_, rfl, hc16⟩⟩ rfl ?_
          refine GL.val trivial rfl (OV.pickT (b := decide ((x11 : Int) < 0)) (v := .bool true) rfl hc16 rfl) ?_
          exact GL.jump (fun _ _ h => h) true h ⟨rfl, rfl, rfl, rfl, rfl, rfl, rfl, trivial⟩
        · skip
          replace h := And.right h hc16
          refine GL.val ⟨_, _, rfl, rfl, hc16⟩ rfl (OV.move (v := .int .i64 x11) rfl) ?_
          refine GL.val ⟨_, _, rfl, rfl, hc16⟩ rfl (OV.move (v := pv p_t) rfl) ?_
          obtain ⟨p17, hp18, h⟩ := h
          refine GL.val ⟨_, _, rfl, rfl, hc16⟩ rfl (OV.nilCheck (q := p_t) rfl hp18) ?_
          refine GL.val ⟨_, _, rfl, rfl, hc16⟩ rfl (OV.fieldAddr (p := p17) rfl rfl) ?_
          obtain ⟨x19, hr20, h⟩ := h
          refine GL.val ⟨_, _, rfl, rfl, hc16⟩ rfl (OV.load (p := (p17.1, p17.2 + 0)) rfl rfl hr20) ?_
          refine GL.val ⟨_, _, rfl, rfl, hc16⟩ rfl (OV.lenSl (s := x19) rfl rfl) ?_
          refine GL.val ⟨_, _, rfl, rfl, hc16⟩ rfl (OV.ibin (v := .bool (decide ((x11 : Int) ≥ (Sl.len x19 : Int)))) rfl rfl rfl) ?_
          refine GL.val trivial rfl (OV.pickF (b := decide ((x11 : Int) < 0)) (v := .bool (decide ((x11 : Int) ≥ (Sl.len x19 : Int)))) rfl hc16 rfl) ?_
          exact GL.jump (fun _ _ h => h) (decide ((x11 : Int) ≥ (Sl.len x19 : Int))) h ⟨rfl, rfl, rfl, rfl, rfl, rfl, rfl, trivial⟩
      intro b13 H21 h
      replace h := hR15 b13 H21 h
      refine GL.nil ?_
      refine GC.cond (b := b13) rfl (fun hc22 => ?_) (fun hc22 => ?_)
      · replace h := And.left h hc22
        refine GC.seq ?_
        refine GC.region ?_
        refine GL.val trivial rfl (OV.assign (v := slv Sl.nil) rfl) ?_
        refine GL.val trivial rfl (OV.assign (v := .int .i64 5) rfl) ?_
        refine GL.nil ?_
        exact GC.ret (fun _ _ hf hs => post_tmp2 rfl rfl rfl hf hs ⟨Sl.nil, 5, rfl, h⟩)
      · replace h := And.right h hc22
        refine GC.skip ?_
        refine GC.region ?_
        refine GL.val trivial rfl (OV.move (v := slv x2.1) rfl) ?_
        refine GL.val trivial rfl (OV.move (v := pv p_t) rfl) ?_
        obtain ⟨p23, hp24, h⟩ := h
        refine GL.val trivial rfl (OV.nilCheck (q := p_t) rfl hp24) ?_
        refine GL.val trivial rfl (OV.fieldAddr (p := p23) rfl rfl) ?_
        obtain ⟨x25, hr26, h⟩ := h
        refine GL.val trivial rfl (OV.load (p := (p23.1, p23.2 + 0)) rfl rfl hr26) ?_
        refine GL.val trivial rfl (OV.move (v := .int .i64 x11) rfl) ?_
        refine GL.val trivial rfl (OV.move (v := .int .i64 x11) rfl) ?_
        refine GL.val trivial rfl (OV.ibin (v := .int .i64 (w .i64 (x11 + 1))) rfl rfl rfl) ?_
        obtain ⟨h28, h29, h30, h31, t27, h32, h⟩ := h
        refine GL.val trivial rfl (OV.sliceSl (s := x25) h28 h29 h30 h31 h32 rfl rfl rfl rfl rfl rfl rfl (fun h => by first | rfl | cases h) rfl rfl) ?_
        refine GL.call h trivial rfl ok_intern_own (vs := [slv t27]) rfl ?_
        rintro _ H34 ⟨r33, rfl, h⟩
        refine GL.appendS (s := x2.1) (s2 := r33) (zc := T_api_Value.c T_api_Value.zero) (bytes := 56) h trivial rfl rfl rfl ⟨⟨_, _, _, rfl, rfl, rfl, rfl, rfl, rfl⟩⟩ rfl ?_
        intro r35 H36 h
        refine GL.val trivial rfl (OV.assign (v := slv r35) rfl) ?_
        refine GL.nil_to (fun _ _ h => h) ?_
        refine GC.region ?_
        refine GL.val trivial rfl (OV.ibin (v := .int .i64 (w .i64 (x2.2 + 1))) rfl rfl rfl) ?_
        refine GL.val trivial rfl (OV.move (v := .int .i64 (w .i64 (x2.2 + 1))) rfl) ?_
        exact GL.jump (fun _ _ h => h) (r35, (w .i64 (x2.2 + 1))) h ⟨rfl, rfl, rfl, rfl, rfl, trivial⟩
    · replace h := And.right h hc5
      refine GC.exit_to (fun _ _ h => h) ?_
      refine GC.seq ?_
      refine GC.region ?_
      refine GL.val trivial rfl (OV.move (v := slv x2.1) rfl) ?_
      refine GL.val trivial rfl (OV.assign (v := slv x2.1) rfl) ?_
      refine GL.val trivial rfl (OV.assign (v := .int .i64 0) rfl) ?_
      refine GL.nil ?_
      exact GC.ret (fun _ _ hf hs => post_tmp2 rfl rfl rfl hf hs ⟨x2.1, 0, rfl, h⟩)

def sh_ref02_SameRow (C : Ctx) (p_a : Sl) (p_b : Sl) (K : Bool → Heap → Prop) (H : Heap) : Prop :=
  ift (((Sl.len p_a : Int) : Int) != (Sl.len p_b : Int))
 (K false H)
 (lp (α := Int) 0 H (fun x2 J3 H4 =>
 ift (decide ((x2 : Int) < (Sl.len p_a : Int)))
 (dr H4 fun Hs6 =>
 ixa p_a x2 fun p8 =>
 ldT Hs6 T_api_Value.c (p8.1, p8.2 + (x2 : Int).toNat * 4) fun x13 =>
 ixa p_b x2 fun p15 =>
 ldT Hs6 T_api_Value.c (p15.1, p15.2 + (x2 : Int).toNat * 4) fun x20 =>
 c_ref02_Same C x13 x20 (fun r23 H24 =>
 Heap.le Hs6 H24 ∧
 ift (!r23)
 (K false H24)
 (J3 (w .i64 (x2 + 1)) H24)) H4)
 (K true H4)))

theorem ad_ref02_SameRow (C : Ctx) (p_a : Sl) (p_b : Sl) (K : Bool → Heap → Prop) (H : Heap) (h : sh_ref02_SameRow C p_a p_b K H) : c_ref02_SameRow C p_a p_b K H := by
  refine Spec.enter Tryd.func10 rfl Tryd.ntmps10 rfl ?_
  refine GC.sub [(0, slv p_a), (1, slv p_b)] ⟨rfl, rfl, trivial⟩ ?_
  refine GC.seq ?_
  refine GC.region ?_
  refine GL.val trivial rfl (OV.assign (v := .bool false) rfl) ?_
  refine GL.nil ?_
  refine GC.seq ?_
  refine GC.seq ?_
  refine GC.region ?_
  refine GL.val trivial rfl (OV.move (v := slv p_a) rfl) ?_
  refine GL.val trivial rfl (OV.lenSl (s := p_a) rfl rfl) ?_
  refine GL.val trivial rfl (OV.move (v := slv p_b) rfl) ?_
  refine GL.val trivial rfl (OV.lenSl (s := p_b) rfl rfl) ?_
  refine GL.val trivial rfl (OV.ibin (v := .bool (((Sl.len p_a : Int) : Int) != (Sl.len p_b : Int))) rfl rfl rfl) ?_
  refine GL.nil ?_
  refine GC.cond (b := ((Sl.len p_a : Int) : Int) != (Sl.len p_b : Int)) rfl (fun hc1 => ?_) (fun hc1 => ?_)
  · replace h := And.left h hc1
    refine GC.seq ?_
    refine GC.region ?_
    refine GL.val trivial rfl (OV.assign (v := .bool false) rfl) ?_
    refine GL.nil ?_
    exact GC.ret (fun _ _ hf hs => post_tmp1 rfl rfl hf hs ⟨false, rfl, h⟩)
  · replace h := And.right h hc1
    refine GC.skip ?_
    refine GC.seq ?_
    refine GC.seq ?_
    refine GC.region ?_
    refine GL.val trivial rfl (OV.assign (v := .int .i64 0) rfl) ?_
    refine GL.nil ?_
    refine GC.block ?_
    refine GC.loop (α := Int) h (fun x2 => [(5, .int .i64 x2), (0, slv p_a), (1, slv p_b)]) ⟨rfl, rfl, rfl, trivial⟩ ?_
    intro x2 H4 J3 h
    refine GC.seq ?_
    refine GC.seq ?_
    refine GC.region ?_
    refine GL.val trivial rfl (OV.move (v := .int .i64 x2) rfl) ?_
    refine GL.val trivial rfl (OV.move (v := slv p_a) rfl) ?_
    refine GL.val trivial rfl (OV.lenSl (s := p_a) rfl rfl) ?_
    refine GL.val trivial rfl (OV.ibin (v := .bool (decide ((x2 : Int) < (Sl.len p_a : Int)))) rfl rfl rfl) ?_
    refine GL.nil ?_
    refine GC.cond (b := decide ((x2 : Int) < (Sl.len p_a : Int))) rfl (fun hc5 => ?_) (fun hc5 => ?_)
    · replace h := And.left h hc5
      refine GC.skip ?_
      refine GC.seq ?_
      refine GC.block ?_
      refine GC.seq ?_
      obtain ⟨Hs6, hle7, h⟩ := h
      refine GC.any (Hs := Hs6) (by kernel_rfl) hle7 ?_
      refine GA.take 0 rfl (by kernel_rfl) (by kernel_rfl) (by kernel_rfl) (fun _ _ _ h => False.elim h) trivial rfl (OV.move (v := slv p_a) rfl) ?_
      refine GA.take 1 rfl (by kernel_rfl) (by kernel_rfl) (by kernel_rfl) (fun _ _ _ h => False.elim h) trivial rfl (OV.move (v := .int .i64 x2) rfl) ?_
      obtain ⟨p8, ha9, hb10, hc11, hd12, h⟩ := h
      refine GA.take 2 rfl (by kernel_rfl) (by kernel_rfl) (by kernel_rfl) (fun _ _ _ h => False.elim h) trivial rfl (OV.indexAddr (s := p_a) rfl rfl rfl rfl ha9 hb10 hc11 hd12) ?_
      obtain ⟨x13, hr14, h⟩ := h
      refine GA.take 3 rfl (by kernel_rfl) (by kernel_rfl) (by kernel_rfl) (fun _ _ _ h => False.elim h) trivial rfl (OV.loadT (p := (p8.1, p8.2 + (x2 : Int).toNat * 4)) (cs := T_api_Value.c x13) rfl rfl rfl hr14) ?_
      refine GA.take 4 rfl (by kernel_rfl) (by kernel_rfl) (by kernel_rfl) (fun _ _ _ h => False.elim h) trivial rfl (OV.move (v := slv p_b) rfl) ?_
      refine GA.take 5 rfl (by kernel_rfl) (by kernel_rfl) (by kernel_rfl) (fun _ _ _ h => False.elim h) trivial rfl (OV.move (v := .int .i64 x2) rfl) ?_
      obtain ⟨p15, ha16, hb17, hc18, hd19, h⟩ := h
      refine GA.take 6 rfl (by kernel_rfl) (by kernel_rfl) (by kernel_rfl) (fun _ _ _ h => False.elim h) trivial rfl (OV.indexAddr (s := p_b) rfl rfl rfl rfl ha16 hb17 hc18 hd19) ?_
      obtain ⟨x20, hr21, h⟩ := h
      refine GA.take 7 rfl (by kernel_rfl) (by kernel_rfl) (by kernel_rfl) (fun _ _ _ h => False.elim h) trivial rfl (OV.loadT (p := (p15.1, p15.2 + (x2 : Int).toNat * 4)) (cs := T_api_Value.c x20) rfl rfl rfl hr21) ?_
      refine GA.eff 8 rfl (by kernel_rfl) ?_
      refine GL.call h trivial rfl ok_ref02_Same (vs := [.agg (T_api_Value.c x13).toArray, .agg (T_api_Value.c x20).toArray]) rfl ?_
      rintro _ H24 ⟨r23, rfl, h⟩
      obtain ⟨hle22, h⟩ := h
      refine GA.back hle22 ?_
      refine GA.take 9 rfl (by kernel_rfl) (by kernel_rfl) (by kernel_rfl) (fun _ _ _ h => False.elim h) trivial rfl (OV.not rfl) ?_
      refine GA.done (by kernel_rfl) ?_
      refine GL.nil ?_
      refine GC.cond (b := !r23) rfl (fun hc25 => ?_) (fun hc25 => ?_)
      · replace h := And.left h hc25
        refine GC.seq ?_
        refine GC.region ?_
        refine GL.val trivial rfl (OV.assign (v := .bool false) rfl) ?_
        refine GL.nil ?_
        exact GC.ret (fun _ _ hf hs => post_tmp1 rfl rfl hf hs ⟨false, rfl, h⟩)
      · replace h := And.right h hc25
        refine GC.skip_to (fun _ _ h => h) ?_
        refine GC.region ?_
        refine GL.val trivial rfl (OV.move (v := .int .i64 x2) rfl) ?_
        refine GL.val trivial rfl (OV.ibin (v := .int .i64 (w .i64 (x2 + 1))) rfl rfl rfl) ?_
        refine GL.val trivial rfl (OV.assign (v := .int .i64 (w .i64 (x2 + 1))) rfl) ?_
        exact GL.jump (fun _ _ h => h) (w .i64 (x2 + 1)) h ⟨rfl, rfl, rfl, trivial⟩
    · replace h := And.right h hc5
      refine GC.exit_to (fun _ _ h => h) ?_
      refine GC.seq ?_
      refine GC.region ?_
      refine GL.val trivial rfl (OV.assign (v := .bool true) rfl) ?_
      refine GL.nil ?_
      exact GC.ret (fun _ _ hf hs => post_tmp1 rfl rfl hf hs ⟨true, rfl, h⟩)

def sh_law04_weight (C : Ctx) (p_v : T_api_Value) (p_most : Int) (K : Int → Heap → Prop) (H : Heap) : Prop :=
  nw (T_api_Value.c p_v) (fun b1 H2 =>
 ldS H2 ((b1, 0).1, (b1, 0).2 + 2) fun x3 =>
 lp (α := Int × Int) ((w .i64 (1 + (w .i64 (Int.tdiv (List.length x3 : Int) 50)))), 0) H2 (fun x5 J6 H7 =>
 ldL H7 ((b1, 0).1, (b1, 0).2 + 3) fun x8 =>
 ift ((decide ((x5.2 : Int) < (Sl.len x8 : Int))) && (decide ((x5.1 : Int) < p_most)))
 (ldL H7 ((b1, 0).1, (b1, 0).2 + 3) fun x12 =>
 ixa x12 x5.2 fun p14 =>
 ldT H7 T_api_Value.c (p14.1, p14.2 + (x5.2 : Int).toNat * 4) fun x19 =>
 c_law04_weight C x19 (w .i64 (p_most - x5.1)) (fun r21 H22 =>
 J6 ((w .i64 (x5.1 + r21)), (w .i64 (x5.2 + 1))) H22) H7)
 (K x5.1 H7))) H

theorem ad_law04_weight (C : Ctx) (p_v : T_api_Value) (p_most : Int) (K : Int → Heap → Prop) (H : Heap) (h : sh_law04_weight C p_v p_most K H) : c_law04_weight C p_v p_most K H := by
  refine Spec.enter Tryd.func11 rfl Tryd.ntmps11 rfl ?_
  refine GC.sub [(0, .agg (T_api_Value.c p_v).toArray), (1, .int .i64 p_most)] ⟨rfl, rfl, trivial⟩ ?_
  refine GC.seq ?_
  refine GC.region ?_
  refine GL.box (v := .agg (T_api_Value.c p_v).toArray) (cs := T_api_Value.c p_v) h trivial rfl rfl rfl ?_
  intro b1 H2 h
  refine GL.val trivial rfl (OV.assign (v := .int .i64 0) rfl) ?_
  refine GL.nil ?_
  refine GC.seq ?_
  refine GC.region ?_
  refine GL.val trivial rfl (OV.fieldAddr (p := (b1, 0)) rfl rfl) ?_
  obtain ⟨x3, hr4, h⟩ := h
  refine GL.val trivial rfl (OV.load (p := ((b1, 0).1, (b1, 0).2 + 2)) rfl rfl hr4) ?_
  refine GL.val trivial rfl (OV.lenStr (s := x3) rfl rfl) ?_
  refine GL.val trivial rfl (OV.quo rfl rfl (by decide)) ?_
  refine GL.val trivial rfl (OV.ibin (v := .int .i64 (w .i64 (1 + (w .i64 (Int.tdiv (List.length x3 : Int) 50))))) rfl rfl rfl) ?_
  refine GL.val trivial rfl (OV.assign (v := .int .i64 (w .i64 (1 + (w .i64 (Int.tdiv (List.length x3 : Int) 50))))) rfl) ?_
  refine GL.nil ?_
  refine GC.seq ?_
  refine GC.seq ?_
  refine GC.region ?_
  refine GL.val trivial rfl (OV.assign (v := .int .i64 0) rfl) ?_
  refine GL.nil ?_
  refine GC.block ?_
  refine GC.loop (α := Int × Int) h (fun x5 => [(5, .int .i64 x5.1), (6, .int .i64 x5.2), (1, .int .i64 p_most), (2, pv (some (b1, 0)))]) ⟨rfl, rfl, rfl, rfl, trivial⟩ ?_
  intro x5 H7 J6 h
  refine GC.seq ?_
  refine GC.seq ?_
  refine GC.region ?_
  refine GL.val trivial rfl (OV.move (v := .int .i64 x5.2) rfl) ?_
  refine GL.val trivial rfl (OV.fieldAddr (p := (b1, 0)) rfl rfl) ?_
  obtain ⟨x8, hr9, h⟩ := h
  refine GL.val trivial rfl (OV.load (p := ((b1, 0).1, (b1, 0).2 + 3)) rfl rfl hr9) ?_
  refine GL.val trivial rfl (OV.lenSl (s := x8) rfl rfl) ?_
  refine GL.val trivial rfl (OV.ibin (v := .bool (decide ((x5.2 : Int) < (Sl.len x8 : Int)))) rfl rfl rfl) ?_
  refine GL.val trivial rfl (OV.move (v := .bool (decide ((x5.2 : Int) < (Sl.len x8 : Int)))) rfl) ?_
  refine GL.cut0 4 [(21, .bool ((decide ((x5.2 : Int) < (Sl.len x8 : Int))) && (decide ((x5.1 : Int) < p_most)))), (1, .int .i64 p_most), (2, pv (some (b1, 0))), (5, .int .i64 x5.1), (6, .int .i64 x5.2)] ?_ ?_
  · rcases Bool.eq_false_or_eq_true (decide ((x5.2 : Int) < (Sl.len x8 : Int))) with hc10 | hc10
    · skip
      refine GL.val ⟨_, _, rfl, rfl, hc10⟩ rfl (OV.move (v := .int .i64 x5.1) rfl) ?_
      refine GL.val ⟨_, _, rfl, rfl, hc10⟩ rfl (OV.move (v := .int .i64 p_most) rfl) ?_
      refine GL.val ⟨_, _, rfl, rfl, hc10⟩ rfl (OV.ibin (v := .bool (decide ((x5.1 : Int) < p_most))) rfl rfl rfl) ?_
      refine GL.val trivial rfl (OV.pickT (b := decide ((x5.2 : Int) < (Sl.len x8 : Int))) (v := .bool (decide ((x5.1 : Int) < p_most))) rfl hc10 rfl) ?_
      exact GL.jump0 (fun _ _ h => h) () rfl ⟨(by rw [hc10]; rfl), rfl, rfl, rfl, rfl, trivial⟩
    · skip
      refine GL.skip ⟨_, rfl, .inl ⟨_, rfl, hc10⟩⟩ rfl ?_
      refine GL.skip ⟨_, rfl, .inl ⟨_, rfl, hc10⟩⟩ rfl ?_
      refine GL.skip ⟨_, rfl, .inl ⟨_, rfl, hc10⟩⟩ rfl ?_
      refine GL.val trivial rfl (OV.pickF (b := decide ((x5.2 : Int) < (Sl.len x8 : Int))) (v := .bool false) rfl hc10 rfl) ?_
      exact GL.jump0 (fun _ _ h => h) () rfl ⟨(by rw [hc10]; rfl), rfl, rfl, rfl, rfl, trivial⟩
  refine GL.nil ?_
  refine GC.cond (b := (decide ((x5.2 : Int) < (Sl.len x8 : Int))) && (decide ((x5.1 : Int) < p_most))) rfl (fun hc11 => ?_) (fun hc11 => ?_)
  · replace h := And.left h hc11
    refine GC.skip ?_
    refine GC.seq ?_
    refine GC.block ?_
    refine GC.region ?_
    refine GL.val trivial rfl (OV.move (v := .int .i64 x5.1) rfl) ?_
    refine GL.val trivial rfl (OV.fieldAddr (p := (b1, 0)) rfl rfl) ?_
    obtain ⟨x12, hr13, h⟩ := h
    refine GL.val trivial rfl (OV.load (p := ((b1, 0).1, (b1, 0).2 + 3)) rfl rfl hr13) ?_
    refine GL.val trivial rfl (OV.move (v := .int .i64 x5.2) rfl) ?_
    obtain ⟨p14, ha15, hb16, hc17, hd18, h⟩ := h
    refine GL.val trivial rfl (OV.indexAddr (s := x12) rfl rfl rfl rfl ha15 hb16 hc17 hd18) ?_
    obtain ⟨x19, hr20, h⟩ := h
    refine GL.val trivial rfl (OV.loadT (p := (p14.1, p14.2 + (x5.2 : Int).toNat * 4)) (cs := T_api_Value.c x19) rfl rfl rfl hr20) ?_
    refine GL.val trivial rfl (OV.move (v := .int .i64 p_most) rfl) ?_
    refine GL.val trivial rfl (OV.move (v := .int .i64 x5.1) rfl) ?_
    refine GL.val trivial rfl (OV.ibin (v := .int .i64 (w .i64 (p_most - x5.1))) rfl rfl rfl) ?_
    refine GL.call h trivial rfl ok_law04_weight (vs := [.agg (T_api_Value.c x19).toArray, .int .i64 (w .i64 (p_most - x5.1))]) rfl ?_
    rintro _ H22 ⟨r21, rfl, h⟩
    refine GL.val trivial rfl (OV.ibin (v := .int .i64 (w .i64 (x5.1 + r21))) rfl rfl rfl) ?_
    refine GL.val trivial rfl (OV.assign (v := .int .i64 (w .i64 (x5.1 + r21))) rfl) ?_
    refine GL.nil_to (fun _ _ h => h) ?_
    refine GC.region ?_
    refine GL.val trivial rfl (OV.move (v := .int .i64 x5.2) rfl) ?_
    refine GL.val trivial rfl (OV.ibin (v := .int .i64 (w .i64 (x5.2 + 1))) rfl rfl rfl) ?_
    refine GL.val trivial rfl (OV.assign (v := .int .i64 (w .i64 (x5.2 + 1))) rfl) ?_
    exact GL.jump (fun _ _ h => h) ((w .i64 (x5.1 + r21)), (w .i64 (x5.2 + 1))) h ⟨rfl, rfl, rfl, rfl, trivial⟩
  · replace h := And.right h hc11
    refine GC.exit_to (fun _ _ h => h) ?_
    refine GC.seq ?_
    refine GC.region ?_
    refine GL.val trivial rfl (OV.move (v := .int .i64 x5.1) rfl) ?_
    refine GL.val trivial rfl (OV.assign (v := .int .i64 x5.1) rfl) ?_
    refine GL.nil ?_
    exact GC.ret (fun _ _ hf hs => post_tmp1 rfl rfl hf hs ⟨x5.1, rfl, h⟩)

def sh_intern_Table_Len (C : Ctx) (p_t : Option (Nat × Nat)) (K : Int → Heap → Prop) (H : Heap) : Prop :=
  ift (Option.isNone p_t)
 (K 0 H)
 (nck p_t fun p2 =>
 ldL H (p2.1, p2.2 + 0) fun x4 =>
 K (Sl.len x4 : Int) H)

theorem ad_intern_Table_Len (C : Ctx) (p_t : Option (Nat × Nat)) (K : Int → Heap → Prop) (H : Heap) (h : sh_intern_Table_Len C p_t K H) : c_intern_Table_Len C p_t K H := by
  refine Spec.enter Tryd.func12 rfl Tryd.ntmps12 rfl ?_
  refine GC.sub [(0, pv p_t)] ⟨rfl, trivial⟩ ?_
  refine GC.seq ?_
  refine GC.region ?_
  refine GL.val trivial rfl (OV.assign (v := .int .i64 0) rfl) ?_
  refine GL.nil ?_
  refine GC.seq ?_
  refine GC.seq ?_
  refine GC.region ?_
  refine GL.val trivial rfl (OV.move (v := pv p_t) rfl) ?_
  refine GL.val trivial rfl (OV.eqlNil (p := p_t) rfl rfl rfl) ?_
  refine GL.nil ?_
  refine GC.cond (b := Option.isNone p_t) rfl (fun hc1 => ?_) (fun hc1 => ?_)
  · replace h := And.left h hc1
    refine GC.seq ?_
    refine GC.region ?_
    refine GL.val trivial rfl (OV.assign (v := .int .i64 0) rfl) ?_
    refine GL.nil ?_
    exact GC.ret (fun _ _ hf hs => post_tmp1 rfl rfl hf hs ⟨0, rfl, h⟩)
  · replace h := And.right h hc1
    refine GC.skip ?_
    refine GC.seq ?_
    refine GC.region ?_
    refine GL.val trivial rfl (OV.move (v := pv p_t) rfl) ?_
    obtain ⟨p2, hp3, h⟩ := h
    refine GL.val trivial rfl (OV.nilCheck (q := p_t) rfl hp3) ?_
    refine GL.val trivial rfl (OV.fieldAddr (p := p2) rfl rfl) ?_
    obtain ⟨x4, hr5, h⟩ := h
    refine GL.val trivial rfl (OV.load (p := (p2.1, p2.2 + 0)) rfl rfl hr5) ?_
    refine GL.val trivial rfl (OV.lenSl (s := x4) rfl rfl) ?_
    refine GL.val trivial rfl (OV.assign (v := .int .i64 (Sl.len x4 : Int)) rfl) ?_
    refine GL.nil ?_
    exact GC.ret (fun _ _ hf hs => post_tmp1 rfl rfl hf hs ⟨(Sl.len x4 : Int), rfl, h⟩)

end Sx
end

