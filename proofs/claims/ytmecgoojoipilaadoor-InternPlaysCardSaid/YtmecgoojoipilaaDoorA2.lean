/-
  Texts of this family, one behind the other: Sh1.
-/
import Derived.Test.YtmecgoojoipilaaDoorA1
import Derived.Test.YtmecgoojoipilaaDoorProg
noncomputable section
set_option linter.unusedVariables false
set_option maxRecDepth 100000
namespace Sx
open Go Go.Proofs
structure T_law04_Op where
  Kind : Int
  Row : Sl
  Numbers : Sl
def T_law04_Op.c (x : T_law04_Op) : List Value := [.int .u8 x.Kind, slv x.Row, slv x.Numbers]
def T_law04_Op.zero : T_law04_Op := ⟨0, Sl.nil, Sl.nil⟩
structure T_api_Value where
  Kind : Int
  N : Int
  S : Str
  L : Sl
def T_api_Value.c (x : T_api_Value) : List Value := [.int .u8 x.Kind, .int .i64 x.N, sv x.S, slv x.L]
def T_api_Value.zero : T_api_Value := ⟨0, 0, [], Sl.nil⟩
structure T_ref04_Table where
  L : Sl
def T_ref04_Table.c (x : T_ref04_Table) : List Value := [slv x.L]
def T_ref04_Table.zero : T_ref04_Table := ⟨Sl.nil⟩
structure T_intern_Table where
  all_ : Sl
  by_ : Option Nat
def T_intern_Table.c (x : T_intern_Table) : List Value := [slv x.all_, mv x.by_]
def T_intern_Table.zero : T_intern_Table := ⟨Sl.nil, none⟩

theorem ok_law04_large : CallOk Tryd.prog 5 := ⟨⟨_, Tryd.func5, rfl, by decide +kernel⟩⟩
theorem ok_law04_awake : CallOk Tryd.prog 6 := ⟨⟨_, Tryd.func6, rfl, by decide +kernel⟩⟩
theorem ok_intern_New : CallOk Tryd.prog 7 := ⟨⟨_, Tryd.func7, rfl, by decide +kernel⟩⟩
theorem ok_law04_Op_do : CallOk Tryd.prog 8 := ⟨⟨_, Tryd.func8, rfl, by decide +kernel⟩⟩
theorem ok_intern_Table_Row : CallOk Tryd.prog 9 := ⟨⟨_, Tryd.func9, rfl, by decide +kernel⟩⟩
theorem ok_ref02_SameRow : CallOk Tryd.prog 10 := ⟨⟨_, Tryd.func10, rfl, by decide +kernel⟩⟩
theorem ok_law04_weight : CallOk Tryd.prog 11 := ⟨⟨_, Tryd.func11, rfl, by decide +kernel⟩⟩
theorem ok_intern_Table_Len : CallOk Tryd.prog 12 := ⟨⟨_, Tryd.func12, rfl, by decide +kernel⟩⟩
theorem ok_intern_Table_Put : CallOk Tryd.prog 13 := ⟨⟨_, Tryd.func13, rfl, by decide +kernel⟩⟩
theorem ok_value_Check : CallOk Tryd.prog 14 := ⟨⟨_, Tryd.func14, rfl, by decide +kernel⟩⟩
theorem ok_intern_Table_At : CallOk Tryd.prog 15 := ⟨⟨_, Tryd.func15, rfl, by decide +kernel⟩⟩
theorem ok_intern_Table_Find : CallOk Tryd.prog 16 := ⟨⟨_, Tryd.func16, rfl, by decide +kernel⟩⟩
theorem ok_ref02_Same : CallOk Tryd.prog 17 := ⟨⟨_, Tryd.func17, rfl, by decide +kernel⟩⟩
theorem ok_intern_Table_PutRow : CallOk Tryd.prog 18 := ⟨⟨_, Tryd.func18, rfl, by decide +kernel⟩⟩
theorem ok_ref04_Ints : CallOk Tryd.prog 19 := ⟨⟨_, Tryd.func19, rfl, by decide +kernel⟩⟩
theorem ok_ref02_Own : CallOk Tryd.prog 20 := ⟨⟨_, Tryd.func20, rfl, by decide +kernel⟩⟩
theorem ok_ref04_Table_Put : CallOk Tryd.prog 21 := ⟨⟨_, Tryd.func21, rfl, by decide +kernel⟩⟩
theorem ok_ref04_Table_PutRow : CallOk Tryd.prog 22 := ⟨⟨_, Tryd.func22, rfl, by decide +kernel⟩⟩
theorem ok_ref04_Table_Find : CallOk Tryd.prog 23 := ⟨⟨_, Tryd.func23, rfl, by decide +kernel⟩⟩
theorem ok_ref04_Table_Row : CallOk Tryd.prog 24 := ⟨⟨_, Tryd.func24, rfl, by decide +kernel⟩⟩
theorem ok_law04_spoil : CallOk Tryd.prog 25 := ⟨⟨_, Tryd.func25, rfl, by decide +kernel⟩⟩
theorem ok_intern_own : CallOk Tryd.prog 26 := ⟨⟨_, Tryd.func26, rfl, by decide +kernel⟩⟩
theorem ok_value_Show : CallOk Tryd.prog 27 := ⟨⟨_, Tryd.func27, rfl, by decide +kernel⟩⟩
theorem ok_value_depth : CallOk Tryd.prog 28 := ⟨⟨_, Tryd.func28, rfl, by decide +kernel⟩⟩
theorem ok_value_item_look : CallOk Tryd.prog 29 := ⟨⟨_, Tryd.func29, rfl, by decide +kernel⟩⟩
theorem ok_ref02_Check : CallOk Tryd.prog 30 := ⟨⟨_, Tryd.func30, rfl, by decide +kernel⟩⟩
theorem ok_value_Show_1 : CallOk Tryd.prog 31 := ⟨⟨_, Tryd.func31, rfl, by decide +kernel⟩⟩
theorem ok_strings_Builder_WriteByte : CallOk Tryd.prog 32 := ⟨⟨_, Tryd.func32, rfl, by decide +kernel⟩⟩
theorem ok_strings_Builder_WriteString : CallOk Tryd.prog 33 := ⟨⟨_, Tryd.func33, rfl, by decide +kernel⟩⟩
theorem ok_value_Show_2 : CallOk Tryd.prog 34 := ⟨⟨_, Tryd.func34, rfl, by decide +kernel⟩⟩
theorem ok_strconv_FormatBool : CallOk Tryd.prog 35 := ⟨⟨_, Tryd.func35, rfl, by decide +kernel⟩⟩
theorem ok_strconv_FormatInt : CallOk Tryd.prog 36 := ⟨⟨_, Tryd.func36, rfl, by decide +kernel⟩⟩
theorem ok_value_quote : CallOk Tryd.prog 37 := ⟨⟨_, Tryd.func37, rfl, by decide +kernel⟩⟩
theorem ok_strings_Builder_String : CallOk Tryd.prog 38 := ⟨⟨_, Tryd.func38, rfl, by decide +kernel⟩⟩
theorem ok_value_number : CallOk Tryd.prog 39 := ⟨⟨_, Tryd.func39, rfl, by decide +kernel⟩⟩
theorem ok_strings_Cut : CallOk Tryd.prog 40 := ⟨⟨_, Tryd.func40, rfl, by decide +kernel⟩⟩
theorem ok_value_name : CallOk Tryd.prog 41 := ⟨⟨_, Tryd.func41, rfl, by decide +kernel⟩⟩
theorem ok_ref02_Depth : CallOk Tryd.prog 42 := ⟨⟨_, Tryd.func42, rfl, by decide +kernel⟩⟩
theorem ok_ref02_form : CallOk Tryd.prog 43 := ⟨⟨_, Tryd.func43, rfl, by decide +kernel⟩⟩
theorem ok_ref02_fits : CallOk Tryd.prog 44 := ⟨⟨_, Tryd.func44, rfl, by decide +kernel⟩⟩
theorem ok_strings_Builder_copyCheck : CallOk Tryd.prog 45 := ⟨⟨_, Tryd.func45, rfl, by decide +kernel⟩⟩
theorem ok_internal_strconv_FormatBool : CallOk Tryd.prog 46 := ⟨⟨_, Tryd.func46, rfl, by decide +kernel⟩⟩
theorem ok_strings_TrimPrefix : CallOk Tryd.prog 48 := ⟨⟨_, Tryd.func48, rfl, by decide +kernel⟩⟩
theorem ok_strings_Trim : CallOk Tryd.prog 49 := ⟨⟨_, Tryd.func49, rfl, by decide +kernel⟩⟩
theorem ok_internal_stringslite_Cut : CallOk Tryd.prog 50 := ⟨⟨_, Tryd.func50, rfl, by decide +kernel⟩⟩
theorem ok_ref02_Number : CallOk Tryd.prog 51 := ⟨⟨_, Tryd.func51, rfl, by decide +kernel⟩⟩
theorem ok_ref02_Names : CallOk Tryd.prog 52 := ⟨⟨_, Tryd.func52, rfl, by decide +kernel⟩⟩
theorem ok_ref02_Digits : CallOk Tryd.prog 53 := ⟨⟨_, Tryd.func53, rfl, by decide +kernel⟩⟩
theorem ok_internal_stringslite_TrimPrefix : CallOk Tryd.prog 59 := ⟨⟨_, Tryd.func59, rfl, by decide +kernel⟩⟩
theorem ok_strings_trimLeftByte : CallOk Tryd.prog 60 := ⟨⟨_, Tryd.func60, rfl, by decide +kernel⟩⟩
theorem ok_strings_trimRightByte : CallOk Tryd.prog 61 := ⟨⟨_, Tryd.func61, rfl, by decide +kernel⟩⟩
theorem ok_strings_makeASCIISet : CallOk Tryd.prog 62 := ⟨⟨_, Tryd.func62, rfl, by decide +kernel⟩⟩
theorem ok_strings_trimLeftASCII : CallOk Tryd.prog 63 := ⟨⟨_, Tryd.func63, rfl, by decide +kernel⟩⟩
theorem ok_strings_trimRightASCII : CallOk Tryd.prog 64 := ⟨⟨_, Tryd.func64, rfl, by decide +kernel⟩⟩
theorem ok_strings_trimLeftUnicode : CallOk Tryd.prog 65 := ⟨⟨_, Tryd.func65, rfl, by decide +kernel⟩⟩
theorem ok_strings_trimRightUnicode : CallOk Tryd.prog 66 := ⟨⟨_, Tryd.func66, rfl, by decide +kernel⟩⟩
theorem ok_internal_stringslite_Index : CallOk Tryd.prog 67 := ⟨⟨_, Tryd.func67, rfl, by decide +kernel⟩⟩
theorem ok_ref02_Name : CallOk Tryd.prog 68 := ⟨⟨_, Tryd.func68, rfl, by decide +kernel⟩⟩
theorem ok_internal_stringslite_HasPrefix : CallOk Tryd.prog 74 := ⟨⟨_, Tryd.func74, rfl, by decide +kernel⟩⟩
theorem ok_strings_asciiSet_contains : CallOk Tryd.prog 75 := ⟨⟨_, Tryd.func75, rfl, by decide +kernel⟩⟩
theorem ok_internal_stringslite_IndexByte : CallOk Tryd.prog 79 := ⟨⟨_, Tryd.func79, rfl, by decide +kernel⟩⟩
theorem ok_internal_bytealg_Cutover : CallOk Tryd.prog 81 := ⟨⟨_, Tryd.func81, rfl, by decide +kernel⟩⟩
theorem ok_internal_bytealg_IndexRabinKarp_string : CallOk Tryd.prog 82 := ⟨⟨_, Tryd.func82, rfl, by decide +kernel⟩⟩
theorem ok_ref02_letter : CallOk Tryd.prog 83 := ⟨⟨_, Tryd.func83, rfl, by decide +kernel⟩⟩
theorem ext_internal_abi_NoEscape : ExtOk Tryd.prog 54 Extern.AbiNoEscape.same := ⟨⟨_, Tryd.func54, by kernel_rfl, by kernel_rfl, by kernel_rfl, by kernel_rfl⟩⟩
theorem ext_internal_bytealg_IndexByteString : ExtOk Tryd.prog 89 Extern.BytealgIndexByte.indexByte := ⟨⟨_, Tryd.func89, by kernel_rfl, by kernel_rfl, by kernel_rfl, by kernel_rfl⟩⟩

abbrev tyB : TypeId := 67
abbrev tyE : TypeId := 5
abbrev Bd (bs : Str) : GO := .bld tyB tyE bs

def c_law04_InternPlays (C : Ctx) (p_l : Sl) (K : Bool → Heap → Prop) (H : Heap) : Prop :=
  Spec Tryd.prog C 3 [slv p_l] H (fun v H2 => ∃ (r0 : Bool), v = .bool r0 ∧ K r0 H2)
theorem c_law04_InternPlays.mono {C : Ctx} {p_l : Sl} {K K2 : Bool → Heap → Prop} {H : Heap} (h : c_law04_InternPlays C p_l K H) (hk : ∀ r0 H2, K r0 H2 → K2 r0 H2) : c_law04_InternPlays C p_l K2 H :=
  Spec.mono h fun _ H2 ⟨r0, hv, h2⟩ => ⟨r0, hv, hk r0 H2 h2⟩
theorem c_law04_InternPlays.gh {C : Ctx} {p_l : Sl} {K : Bool → Heap → Prop} {H : Heap} (h : c_law04_InternPlays C p_l (fun r0 H2 => ∃ H0, Gh C H2 H0 ∧ K r0 H0) H) : c_law04_InternPlays C p_l K H :=
  Spec.gh (Spec.mono h fun _ H2 ⟨r0, hv, H0, hg, hk⟩ => ⟨H0, hg, r0, hv, hk⟩)
def c_law04_large (C : Ctx) (p_l : Sl) (K : Bool → Heap → Prop) (H : Heap) : Prop :=
  Spec Tryd.prog C 5 [slv p_l] H (fun v H2 => ∃ (r0 : Bool), v = .bool r0 ∧ K r0 H2)
theorem c_law04_large.mono {C : Ctx} {p_l : Sl} {K K2 : Bool → Heap → Prop} {H : Heap} (h : c_law04_large C p_l K H) (hk : ∀ r0 H2, K r0 H2 → K2 r0 H2) : c_law04_large C p_l K2 H :=
  Spec.mono h fun _ H2 ⟨r0, hv, h2⟩ => ⟨r0, hv, hk r0 H2 h2⟩
theorem c_law04_large.gh {C : Ctx} {p_l : Sl} {K : Bool → Heap → Prop} {H : Heap} (h : c_law04_large C p_l (fun r0 H2 => ∃ H0, Gh C H2 H0 ∧ K r0 H0) H) : c_law04_large C p_l K H :=
  Spec.gh (Spec.mono h fun _ H2 ⟨r0, hv, H0, hg, hk⟩ => ⟨H0, hg, r0, hv, hk⟩)
def c_law04_awake (C : Ctx) (K : Bool → Heap → Prop) (H : Heap) : Prop :=
  Spec Tryd.prog C 6 [] H (fun v H2 => ∃ (r0 : Bool), v = .bool r0 ∧ K r0 H2)
theorem c_law04_awake.mono {C : Ctx} {K K2 : Bool → Heap → Prop} {H : Heap} (h : c_law04_awake C  K H) (hk : ∀ r0 H2, K r0 H2 → K2 r0 H2) : c_law04_awake C  K2 H :=
  Spec.mono h fun _ H2 ⟨r0, hv, h2⟩ => ⟨r0, hv, hk r0 H2 h2⟩
theorem c_law04_awake.gh {C : Ctx} {K : Bool → Heap → Prop} {H : Heap} (h : c_law04_awake C  (fun r0 H2 => ∃ H0, Gh C H2 H0 ∧ K r0 H0) H) : c_law04_awake C  K H :=
  Spec.gh (Spec.mono h fun _ H2 ⟨r0, hv, H0, hg, hk⟩ => ⟨H0, hg, r0, hv, hk⟩)
def c_intern_New (C : Ctx) (K : Option (Nat × Nat) → Heap → Prop) (H : Heap) : Prop :=
  Spec Tryd.prog C 7 [] H (fun v H2 => ∃ (r0 : Option (Nat × Nat)), v = pv r0 ∧ K r0 H2)
theorem c_intern_New.mono {C : Ctx} {K K2 : Option (Nat × Nat) → Heap → Prop} {H : Heap} (h : c_intern_New C  K H) (hk : ∀ r0 H2, K r0 H2 → K2 r0 H2) : c_intern_New C  K2 H :=
  Spec.mono h fun _ H2 ⟨r0, hv, h2⟩ => ⟨r0, hv, hk r0 H2 h2⟩
theorem c_intern_New.gh {C : Ctx} {K : Option (Nat × Nat) → Heap → Prop} {H : Heap} (h : c_intern_New C  (fun r0 H2 => ∃ H0, Gh C H2 H0 ∧ K r0 H0) H) : c_intern_New C  K H :=
  Spec.gh (Spec.mono h fun _ H2 ⟨r0, hv, H0, hg, hk⟩ => ⟨H0, hg, r0, hv, hk⟩)
def c_law04_Op_do (C : Ctx) (p_o : T_law04_Op) (p_t : Option (Nat × Nat)) (p_x : Option (Nat × Nat)) (K : Bool → Heap → Prop) (H : Heap) : Prop :=
  Spec Tryd.prog C 8 [.agg (T_law04_Op.c p_o).toArray, pv p_t, pv p_x] H (fun v H2 => ∃ (r0 : Bool), v = .bool r0 ∧ K r0 H2)
theorem c_law04_Op_do.mono {C : Ctx} {p_o : T_law04_Op} {p_t : Option (Nat × Nat)} {p_x : Option (Nat × Nat)} {K K2 : Bool → Heap → Prop} {H : Heap} (h : c_law04_Op_do C p_o p_t p_x K H) (hk : ∀ r0 H2, K r0 H2 → K2 r0 H2) : c_law04_Op_do C p_o p_t p_x K2 H :=
  Spec.mono h fun _ H2 ⟨r0, hv, h2⟩ => ⟨r0, hv, hk r0 H2 h2⟩
theorem c_law04_Op_do.gh {C : Ctx} {p_o : T_law04_Op} {p_t : Option (Nat × Nat)} {p_x : Option (Nat × Nat)} {K : Bool → Heap → Prop} {H : Heap} (h : c_law04_Op_do C p_o p_t p_x (fun r0 H2 => ∃ H0, Gh C H2 H0 ∧ K r0 H0) H) : c_law04_Op_do C p_o p_t p_x K H :=
  Spec.gh (Spec.mono h fun _ H2 ⟨r0, hv, H0, hg, hk⟩ => ⟨H0, hg, r0, hv, hk⟩)
def c_intern_Table_Row (C : Ctx) (p_t : Option (Nat × Nat)) (p_l : Sl) (K : Sl → Int → Heap → Prop) (H : Heap) : Prop :=
  Spec Tryd.prog C 9 [pv p_t, slv p_l] H (fun v H2 => ∃ (r0 : Sl) (r1 : Int), v = .tuple #[slv r0, .int .i64 r1] ∧ K r0 r1 H2)
theorem c_intern_Table_Row.mono {C : Ctx} {p_t : Option (Nat × Nat)} {p_l : Sl} {K K2 : Sl → Int → Heap → Prop} {H : Heap} (h : c_intern_Table_Row C p_t p_l K H) (hk : ∀ r0 r1 H2, K r0 r1 H2 → K2 r0 r1 H2) : c_intern_Table_Row C p_t p_l K2 H :=
  Spec.mono h fun _ H2 ⟨r0, r1, hv, h2⟩ => ⟨r0, r1, hv, hk r0 r1 H2 h2⟩
theorem c_intern_Table_Row.gh {C : Ctx} {p_t : Option (Nat × Nat)} {p_l : Sl} {K : Sl → Int → Heap → Prop} {H : Heap} (h : c_intern_Table_Row C p_t p_l (fun r0 r1 H2 => ∃ H0, Gh C H2 H0 ∧ K r0 r1 H0) H) : c_intern_Table_Row C p_t p_l K H :=
  Spec.gh (Spec.mono h fun _ H2 ⟨r0, r1, hv, H0, hg, hk⟩ => ⟨H0, hg, r0, r1, hv, hk⟩)
def c_ref02_SameRow (C : Ctx) (p_a : Sl) (p_b : Sl) (K : Bool → Heap → Prop) (H : Heap) : Prop :=
  Spec Tryd.prog C 10 [slv p_a, slv p_b] H (fun v H2 => ∃ (r0 : Bool), v = .bool r0 ∧ K r0 H2)
theorem c_ref02_SameRow.mono {C : Ctx} {p_a : Sl} {p_b : Sl} {K K2 : Bool → Heap → Prop} {H : Heap} (h : c_ref02_SameRow C p_a p_b K H) (hk : ∀ r0 H2, K r0 H2 → K2 r0 H2) : c_ref02_SameRow C p_a p_b K2 H :=
  Spec.mono h fun _ H2 ⟨r0, hv, h2⟩ => ⟨r0, hv, hk r0 H2 h2⟩
theorem c_ref02_SameRow.gh {C : Ctx} {p_a : Sl} {p_b : Sl} {K : Bool → Heap → Prop} {H : Heap} (h : c_ref02_SameRow C p_a p_b (fun r0 H2 => ∃ H0, Gh C H2 H0 ∧ K r0 H0) H) : c_ref02_SameRow C p_a p_b K H :=
  Spec.gh (Spec.mono h fun _ H2 ⟨r0, hv, H0, hg, hk⟩ => ⟨H0, hg, r0, hv, hk⟩)
def c_law04_weight (C : Ctx) (p_v : T_api_Value) (p_most : Int) (K : Int → Heap → Prop) (H : Heap) : Prop :=
  Spec Tryd.prog C 11 [.agg (T_api_Value.c p_v).toArray, .int .i64 p_most] H (fun v H2 => ∃ (r0 : Int), v = .int .i64 r0 ∧ K r0 H2)
theorem c_law04_weight.mono {C : Ctx} {p_v : T_api_Value} {p_most : Int} {K K2 : Int → Heap → Prop} {H : Heap} (h : c_law04_weight C p_v p_most K H) (hk : ∀ r0 H2, K r0 H2 → K2 r0 H2) : c_law04_weight C p_v p_most K2 H :=
  Spec.mono h fun _ H2 ⟨r0, hv, h2⟩ => ⟨r0, hv, hk r0 H2 h2⟩
theorem c_law04_weight.gh {C : Ctx} {p_v : T_api_Value} {p_most : Int} {K : Int → Heap → Prop} {H : Heap} (h : c_law04_weight C p_v p_most (fun r0 H2 => ∃ H0, Gh C H2 H0 ∧ K r0 H0) H) : c_law04_weight C p_v p_most K H :=
  Spec.gh (Spec.mono h fun _ H2 ⟨r0, hv, H0, hg, hk⟩ => ⟨H0, hg, r0, hv, hk⟩)
def c_intern_Table_Len (C : Ctx) (p_t : Option (Nat × Nat)) (K : Int → Heap → Prop) (H : Heap) : Prop :=
  Spec Tryd.prog C 12 [pv p_t] H (fun v H2 => ∃ (r0 : Int), v = .int .i64 r0 ∧ K r0 H2)
theorem c_intern_Table_Len.mono {C : Ctx} {p_t : Option (Nat × Nat)} {K K2 : Int → Heap → Prop} {H : Heap} (h : c_intern_Table_Len C p_t K H) (hk : ∀ r0 H2, K r0 H2 → K2 r0 H2) : c_intern_Table_Len C p_t K2 H :=
  Spec.mono h fun _ H2 ⟨r0, hv, h2⟩ => ⟨r0, hv, hk r0 H2 h2⟩
theorem c_intern_Table_Len.gh {C : Ctx} {p_t : Option (Nat × Nat)} {K : Int → Heap → Prop} {H : Heap} (h : c_intern_Table_Len C p_t (fun r0 H2 => ∃ H0, Gh C H2 H0 ∧ K r0 H0) H) : c_intern_Table_Len C p_t K H :=
  Spec.gh (Spec.mono h fun _ H2 ⟨r0, hv, H0, hg, hk⟩ => ⟨H0, hg, r0, hv, hk⟩)
def c_intern_Table_Put (C : Ctx) (p_t : Option (Nat × Nat)) (p_v : T_api_Value) (K : Int → Int → Heap → Prop) (H : Heap) : Prop :=
  Spec Tryd.prog C 13 [pv p_t, .agg (T_api_Value.c p_v).toArray] H (fun v H2 => ∃ (r0 : Int) (r1 : Int), v = .tuple #[.int .i64 r0, .int .i64 r1] ∧ K r0 r1 H2)
theorem c_intern_Table_Put.mono {C : Ctx} {p_t : Option (Nat × Nat)} {p_v : T_api_Value} {K K2 : Int → Int → Heap → Prop} {H : Heap} (h : c_intern_Table_Put C p_t p_v K H) (hk : ∀ r0 r1 H2, K r0 r1 H2 → K2 r0 r1 H2) : c_intern_Table_Put C p_t p_v K2 H :=
  Spec.mono h fun _ H2 ⟨r0, r1, hv, h2⟩ => ⟨r0, r1, hv, hk r0 r1 H2 h2⟩
theorem c_intern_Table_Put.gh {C : Ctx} {p_t : Option (Nat × Nat)} {p_v : T_api_Value} {K : Int → Int → Heap → Prop} {H : Heap} (h : c_intern_Table_Put C p_t p_v (fun r0 r1 H2 => ∃ H0, Gh C H2 H0 ∧ K r0 r1 H0) H) : c_intern_Table_Put C p_t p_v K H :=
  Spec.gh (Spec.mono h fun _ H2 ⟨r0, r1, hv, H0, hg, hk⟩ => ⟨H0, hg, r0, r1, hv, hk⟩)
def c_value_Check (C : Ctx) (p_v : T_api_Value) (K : Int → Heap → Prop) (H : Heap) : Prop :=
  Spec Tryd.prog C 14 [.agg (T_api_Value.c p_v).toArray] H (fun v H2 => ∃ (r0 : Int), v = .int .i64 r0 ∧ K r0 H2)
theorem c_value_Check.mono {C : Ctx} {p_v : T_api_Value} {K K2 : Int → Heap → Prop} {H : Heap} (h : c_value_Check C p_v K H) (hk : ∀ r0 H2, K r0 H2 → K2 r0 H2) : c_value_Check C p_v K2 H :=
  Spec.mono h fun _ H2 ⟨r0, hv, h2⟩ => ⟨r0, hv, hk r0 H2 h2⟩
theorem c_value_Check.gh {C : Ctx} {p_v : T_api_Value} {K : Int → Heap → Prop} {H : Heap} (h : c_value_Check C p_v (fun r0 H2 => ∃ H0, Gh C H2 H0 ∧ K r0 H0) H) : c_value_Check C p_v K H :=
  Spec.gh (Spec.mono h fun _ H2 ⟨r0, hv, H0, hg, hk⟩ => ⟨H0, hg, r0, hv, hk⟩)
def c_intern_Table_At (C : Ctx) (p_t : Option (Nat × Nat)) (p_n : Int) (K : T_api_Value → Int → Heap → Prop) (H : Heap) : Prop :=
  Spec Tryd.prog C 15 [pv p_t, .int .i64 p_n] H (fun v H2 => ∃ (r0 : T_api_Value) (r1 : Int), v = .tuple #[.agg (T_api_Value.c r0).toArray, .int .i64 r1] ∧ K r0 r1 H2)
theorem c_intern_Table_At.mono {C : Ctx} {p_t : Option (Nat × Nat)} {p_n : Int} {K K2 : T_api_Value → Int → Heap → Prop} {H : Heap} (h : c_intern_Table_At C p_t p_n K H) (hk : ∀ r0 r1 H2, K r0 r1 H2 → K2 r0 r1 H2) : c_intern_Table_At C p_t p_n K2 H :=
  Spec.mono h fun _ H2 ⟨r0, r1, hv, h2⟩ => ⟨r0, r1, hv, hk r0 r1 H2 h2⟩
theorem c_intern_Table_At.gh {C : Ctx} {p_t : Option (Nat × Nat)} {p_n : Int} {K : T_api_Value → Int → Heap → Prop} {H : Heap} (h : c_intern_Table_At C p_t p_n (fun r0 r1 H2 => ∃ H0, Gh C H2 H0 ∧ K r0 r1 H0) H) : c_intern_Table_At C p_t p_n K H :=
  Spec.gh (Spec.mono h fun _ H2 ⟨r0, r1, hv, H0, hg, hk⟩ => ⟨H0, hg, r0, r1, hv, hk⟩)
def c_intern_Table_Find (C : Ctx) (p_t : Option (Nat × Nat)) (p_v : T_api_Value) (K : Int → Bool → Heap → Prop) (H : Heap) : Prop :=
  Spec Tryd.prog C 16 [pv p_t, .agg (T_api_Value.c p_v).toArray] H (fun v H2 => ∃ (r0 : Int) (r1 : Bool), v = .tuple #[.int .i64 r0, .bool r1] ∧ K r0 r1 H2)
theorem c_intern_Table_Find.mono {C : Ctx} {p_t : Option (Nat × Nat)} {p_v : T_api_Value} {K K2 : Int → Bool → Heap → Prop} {H : Heap} (h : c_intern_Table_Find C p_t p_v K H) (hk : ∀ r0 r1 H2, K r0 r1 H2 → K2 r0 r1 H2) : c_intern_Table_Find C p_t p_v K2 H :=
  Spec.mono h fun _ H2 ⟨r0, r1, hv, h2⟩ => ⟨r0, r1, hv, hk r0 r1 H2 h2⟩
theorem c_intern_Table_Find.gh {C : Ctx} {p_t : Option (Nat × Nat)} {p_v : T_api_Value} {K : Int → Bool → Heap → Prop} {H : Heap} (h : c_intern_Table_Find C p_t p_v (fun r0 r1 H2 => ∃ H0, Gh C H2 H0 ∧ K r0 r1 H0) H) : c_intern_Table_Find C p_t p_v K H :=
  Spec.gh (Spec.mono h fun _ H2 ⟨r0, r1, hv, H0, hg, hk⟩ => ⟨H0, hg, r0, r1, hv, hk⟩)
def c_ref02_Same (C : Ctx) (p_a : T_api_Value) (p_b : T_api_Value) (K : Bool → Heap → Prop) (H : Heap) : Prop :=
  Spec Tryd.prog C 17 [.agg (T_api_Value.c p_a).toArray, .agg (T_api_Value.c p_b).toArray] H (fun v H2 => ∃ (r0 : Bool), v = .bool r0 ∧ K r0 H2)
theorem c_ref02_Same.mono {C : Ctx} {p_a : T_api_Value} {p_b : T_api_Value} {K K2 : Bool → Heap → Prop} {H : Heap} (h : c_ref02_Same C p_a p_b K H) (hk : ∀ r0 H2, K r0 H2 → K2 r0 H2) : c_ref02_Same C p_a p_b K2 H :=
  Spec.mono h fun _ H2 ⟨r0, hv, h2⟩ => ⟨r0, hv, hk r0 H2 h2⟩
theorem c_ref02_Same.gh {C : Ctx} {p_a : T_api_Value} {p_b : T_api_Value} {K : Bool → Heap → Prop} {H : Heap} (h : c_ref02_Same C p_a p_b (fun r0 H2 => ∃ H0, Gh C H2 H0 ∧ K r0 H0) H) : c_ref02_Same C p_a p_b K H :=
  Spec.gh (Spec.mono h fun _ H2 ⟨r0, hv, H0, hg, hk⟩ => ⟨H0, hg, r0, hv, hk⟩)
def c_intern_Table_PutRow (C : Ctx) (p_t : Option (Nat × Nat)) (p_l : Sl) (K : Sl → Int → Heap → Prop) (H : Heap) : Prop :=
  Spec Tryd.prog C 18 [pv p_t, slv p_l] H (fun v H2 => ∃ (r0 : Sl) (r1 : Int), v = .tuple #[slv r0, .int .i64 r1] ∧ K r0 r1 H2)
theorem c_intern_Table_PutRow.mono {C : Ctx} {p_t : Option (Nat × Nat)} {p_l : Sl} {K K2 : Sl → Int → Heap → Prop} {H : Heap} (h : c_intern_Table_PutRow C p_t p_l K H) (hk : ∀ r0 r1 H2, K r0 r1 H2 → K2 r0 r1 H2) : c_intern_Table_PutRow C p_t p_l K2 H :=
  Spec.mono h fun _ H2 ⟨r0, r1, hv, h2⟩ => ⟨r0, r1, hv, hk r0 r1 H2 h2⟩
theorem c_intern_Table_PutRow.gh {C : Ctx} {p_t : Option (Nat × Nat)} {p_l : Sl} {K : Sl → Int → Heap → Prop} {H : Heap} (h : c_intern_Table_PutRow C p_t p_l (fun r0 r1 H2 => ∃ H0, Gh C H2 H0 ∧ K r0 r1 H0) H) : c_intern_Table_PutRow C p_t p_l K H :=
  Spec.gh (Spec.mono h fun _ H2 ⟨r0, r1, hv, H0, hg, hk⟩ => ⟨H0, hg, r0, r1, hv, hk⟩)
def c_ref04_Ints (C : Ctx) (p_a : Sl) (p_b : Sl) (K : Bool → Heap → Prop) (H : Heap) : Prop :=
  Spec Tryd.prog C 19 [slv p_a, slv p_b] H (fun v H2 => ∃ (r0 : Bool), v = .bool r0 ∧ K r0 H2)
theorem c_ref04_Ints.mono {C : Ctx} {p_a : Sl} {p_b : Sl} {K K2 : Bool → Heap → Prop} {H : Heap} (h : c_ref04_Ints C p_a p_b K H) (hk : ∀ r0 H2, K r0 H2 → K2 r0 H2) : c_ref04_Ints C p_a p_b K2 H :=
  Spec.mono h fun _ H2 ⟨r0, hv, h2⟩ => ⟨r0, hv, hk r0 H2 h2⟩
theorem c_ref04_Ints.gh {C : Ctx} {p_a : Sl} {p_b : Sl} {K : Bool → Heap → Prop} {H : Heap} (h : c_ref04_Ints C p_a p_b (fun r0 H2 => ∃ H0, Gh C H2 H0 ∧ K r0 H0) H) : c_ref04_Ints C p_a p_b K H :=
  Spec.gh (Spec.mono h fun _ H2 ⟨r0, hv, H0, hg, hk⟩ => ⟨H0, hg, r0, hv, hk⟩)
def c_ref02_Own (C : Ctx) (p_l : Sl) (K : Sl → Heap → Prop) (H : Heap) : Prop :=
  Spec Tryd.prog C 20 [slv p_l] H (fun v H2 => ∃ (r0 : Sl), v = slv r0 ∧ K r0 H2)
theorem c_ref02_Own.mono {C : Ctx} {p_l : Sl} {K K2 : Sl → Heap → Prop} {H : Heap} (h : c_ref02_Own C p_l K H) (hk : ∀ r0 H2, K r0 H2 → K2 r0 H2) : c_ref02_Own C p_l K2 H :=
  Spec.mono h fun _ H2 ⟨r0, hv, h2⟩ => ⟨r0, hv, hk r0 H2 h2⟩
theorem c_ref02_Own.gh {C : Ctx} {p_l : Sl} {K : Sl → Heap → Prop} {H : Heap} (h : c_ref02_Own C p_l (fun r0 H2 => ∃ H0, Gh C H2 H0 ∧ K r0 H0) H) : c_ref02_Own C p_l K H :=
  Spec.gh (Spec.mono h fun _ H2 ⟨r0, hv, H0, hg, hk⟩ => ⟨H0, hg, r0, hv, hk⟩)
def c_ref04_Table_Put (C : Ctx) (p_t : Option (Nat × Nat)) (p_v : T_api_Value) (K : Int → Int → Heap → Prop) (H : Heap) : Prop :=
  Spec Tryd.prog C 21 [pv p_t, .agg (T_api_Value.c p_v).toArray] H (fun v H2 => ∃ (r0 : Int) (r1 : Int), v = .tuple #[.int .i64 r0, .int .i64 r1] ∧ K r0 r1 H2)
theorem c_ref04_Table_Put.mono {C : Ctx} {p_t : Option (Nat × Nat)} {p_v : T_api_Value} {K K2 : Int → Int → Heap → Prop} {H : Heap} (h : c_ref04_Table_Put C p_t p_v K H) (hk : ∀ r0 r1 H2, K r0 r1 H2 → K2 r0 r1 H2) : c_ref04_Table_Put C p_t p_v K2 H :=
  Spec.mono h fun _ H2 ⟨r0, r1, hv, h2⟩ => ⟨r0, r1, hv, hk r0 r1 H2 h2⟩
theorem c_ref04_Table_Put.gh {C : Ctx} {p_t : Option (Nat × Nat)} {p_v : T_api_Value} {K : Int → Int → Heap → Prop} {H : Heap} (h : c_ref04_Table_Put C p_t p_v (fun r0 r1 H2 => ∃ H0, Gh C H2 H0 ∧ K r0 r1 H0) H) : c_ref04_Table_Put C p_t p_v K H :=
  Spec.gh (Spec.mono h fun _ H2 ⟨r0, r1, hv, H0, hg, hk⟩ => ⟨H0, hg, r0, r1, hv, hk⟩)
def c_ref04_Table_PutRow (C : Ctx) (p_t : Option (Nat × Nat)) (p_l : Sl) (K : Sl → Int → Heap → Prop) (H : Heap) : Prop :=
  Spec Tryd.prog C 22 [pv p_t, slv p_l] H (fun v H2 => ∃ (r0 : Sl) (r1 : Int), v = .tuple #[slv r0, .int .i64 r1] ∧ K r0 r1 H2)
theorem c_ref04_Table_PutRow.mono {C : Ctx} {p_t : Option (Nat × Nat)} {p_l : Sl} {K K2 : Sl → Int → Heap → Prop} {H : Heap} (h : c_ref04_Table_PutRow C p_t p_l K H) (hk : ∀ r0 r1 H2, K r0 r1 H2 → K2 r0 r1 H2) : c_ref04_Table_PutRow C p_t p_l K2 H :=
  Spec.mono h fun _ H2 ⟨r0, r1, hv, h2⟩ => ⟨r0, r1, hv, hk r0 r1 H2 h2⟩
theorem c_ref04_Table_PutRow.gh {C : Ctx} {p_t : Option (Nat × Nat)} {p_l : Sl} {K : Sl → Int → Heap → Prop} {H : Heap} (h : c_ref04_Table_PutRow C p_t p_l (fun r0 r1 H2 => ∃ H0, Gh C H2 H0 ∧ K r0 r1 H0) H) : c_ref04_Table_PutRow C p_t p_l K H :=
  Spec.gh (Spec.mono h fun _ H2 ⟨r0, r1, hv, H0, hg, hk⟩ => ⟨H0, hg, r0, r1, hv, hk⟩)
def c_ref04_Table_Find (C : Ctx) (p_t : Option (Nat × Nat)) (p_v : T_api_Value) (K : Int → Bool → Heap → Prop) (H : Heap) : Prop :=
  Spec Tryd.prog C 23 [pv p_t, .agg (T_api_Value.c p_v).toArray] H (fun v H2 => ∃ (r0 : Int) (r1 : Bool), v = .tuple #[.int .i64 r0, .bool r1] ∧ K r0 r1 H2)
theorem c_ref04_Table_Find.mono {C : Ctx} {p_t : Option (Nat × Nat)} {p_v : T_api_Value} {K K2 : Int → Bool → Heap → Prop} {H : Heap} (h : c_ref04_Table_Find C p_t p_v K H) (hk : ∀ r0 r1 H2, K r0 r1 H2 → K2 r0 r1 H2) : c_ref04_Table_Find C p_t p_v K2 H :=
  Spec.mono h fun _ H2 ⟨r0, r1, hv, h2⟩ => ⟨r0, r1, hv, hk r0 r1 H2 h2⟩
theorem c_ref04_Table_Find.gh {C : Ctx} {p_t : Option (Nat × Nat)} {p_v : T_api_Value} {K : Int → Bool → Heap → Prop} {H : Heap} (h : c_ref04_Table_Find C p_t p_v (fun r0 r1 H2 => ∃ H0, Gh C H2 H0 ∧ K r0 r1 H0) H) : c_ref04_Table_Find C p_t p_v K H :=
  Spec.gh (Spec.mono h fun _ H2 ⟨r0, r1, hv, H0, hg, hk⟩ => ⟨H0, hg, r0, r1, hv, hk⟩)
def c_ref04_Table_Row (C : Ctx) (p_t : Option (Nat × Nat)) (p_l : Sl) (K : Sl → Int → Heap → Prop) (H : Heap) : Prop :=
  Spec Tryd.prog C 24 [pv p_t, slv p_l] H (fun v H2 => ∃ (r0 : Sl) (r1 : Int), v = .tuple #[slv r0, .int .i64 r1] ∧ K r0 r1 H2)
theorem c_ref04_Table_Row.mono {C : Ctx} {p_t : Option (Nat × Nat)} {p_l : Sl} {K K2 : Sl → Int → Heap → Prop} {H : Heap} (h : c_ref04_Table_Row C p_t p_l K H) (hk : ∀ r0 r1 H2, K r0 r1 H2 → K2 r0 r1 H2) : c_ref04_Table_Row C p_t p_l K2 H :=
  Spec.mono h fun _ H2 ⟨r0, r1, hv, h2⟩ => ⟨r0, r1, hv, hk r0 r1 H2 h2⟩
theorem c_ref04_Table_Row.gh {C : Ctx} {p_t : Option (Nat × Nat)} {p_l : Sl} {K : Sl → Int → Heap → Prop} {H : Heap} (h : c_ref04_Table_Row C p_t p_l (fun r0 r1 H2 => ∃ H0, Gh C H2 H0 ∧ K r0 r1 H0) H) : c_ref04_Table_Row C p_t p_l K H :=
  Spec.gh (Spec.mono h fun _ H2 ⟨r0, r1, hv, H0, hg, hk⟩ => ⟨H0, hg, r0, r1, hv, hk⟩)
def c_law04_spoil (C : Ctx) (p_l : Sl) (K : Heap → Prop) (H : Heap) : Prop :=
  Spec Tryd.prog C 25 [slv p_l] H (fun v H2 => v = .tuple #[] ∧ K H2)
theorem c_law04_spoil.mono {C : Ctx} {p_l : Sl} {K K2 : Heap → Prop} {H : Heap} (h : c_law04_spoil C p_l K H) (hk : ∀  H2, K  H2 → K2  H2) : c_law04_spoil C p_l K2 H :=
  Spec.mono h fun _ H2 ⟨hv, h2⟩ => ⟨hv, hk H2 h2⟩
theorem c_law04_spoil.gh {C : Ctx} {p_l : Sl} {K : Heap → Prop} {H : Heap} (h : c_law04_spoil C p_l (fun  H2 => ∃ H0, Gh C H2 H0 ∧ K  H0) H) : c_law04_spoil C p_l K H :=
  Spec.gh (Spec.mono h fun _ H2 ⟨hv, H0, hg, hk⟩ => ⟨H0, hg, hv, hk⟩)
def c_intern_own (C : Ctx) (p_l : Sl) (K : Sl → Heap → Prop) (H : Heap) : Prop :=
  Spec Tryd.prog C 26 [slv p_l] H (fun v H2 => ∃ (r0 : Sl), v = slv r0 ∧ K r0 H2)
theorem c_intern_own.mono {C : Ctx} {p_l : Sl} {K K2 : Sl → Heap → Prop} {H : Heap} (h : c_intern_own C p_l K H) (hk : ∀ r0 H2, K r0 H2 → K2 r0 H2) : c_intern_own C p_l K2 H :=
  Spec.mono h fun _ H2 ⟨r0, hv, h2⟩ => ⟨r0, hv, hk r0 H2 h2⟩
theorem c_intern_own.gh {C : Ctx} {p_l : Sl} {K : Sl → Heap → Prop} {H : Heap} (h : c_intern_own C p_l (fun r0 H2 => ∃ H0, Gh C H2 H0 ∧ K r0 H0) H) : c_intern_own C p_l K H :=
  Spec.gh (Spec.mono h fun _ H2 ⟨r0, hv, H0, hg, hk⟩ => ⟨H0, hg, r0, hv, hk⟩)
def c_value_Show (C : Ctx) (p_v : T_api_Value) (K : Str → Heap → Prop) (H : Heap) : Prop :=
  Spec Tryd.prog C 27 [.agg (T_api_Value.c p_v).toArray] H (fun v H2 => ∃ (r0 : Str), v = sv r0 ∧ K r0 H2)
theorem c_value_Show.mono {C : Ctx} {p_v : T_api_Value} {K K2 : Str → Heap → Prop} {H : Heap} (h : c_value_Show C p_v K H) (hk : ∀ r0 H2, K r0 H2 → K2 r0 H2) : c_value_Show C p_v K2 H :=
  Spec.mono h fun _ H2 ⟨r0, hv, h2⟩ => ⟨r0, hv, hk r0 H2 h2⟩
theorem c_value_Show.gh {C : Ctx} {p_v : T_api_Value} {K : Str → Heap → Prop} {H : Heap} (h : c_value_Show C p_v (fun r0 H2 => ∃ H0, Gh C H2 H0 ∧ K r0 H0) H) : c_value_Show C p_v K H :=
  Spec.gh (Spec.mono h fun _ H2 ⟨r0, hv, H0, hg, hk⟩ => ⟨H0, hg, r0, hv, hk⟩)
def c_value_depth (C : Ctx) (p_v : T_api_Value) (p_most : Int) (K : Int → Heap → Prop) (H : Heap) : Prop :=
  Spec Tryd.prog C 28 [.agg (T_api_Value.c p_v).toArray, .int .i64 p_most] H (fun v H2 => ∃ (r0 : Int), v = .int .i64 r0 ∧ K r0 H2)
theorem c_value_depth.mono {C : Ctx} {p_v : T_api_Value} {p_most : Int} {K K2 : Int → Heap → Prop} {H : Heap} (h : c_value_depth C p_v p_most K H) (hk : ∀ r0 H2, K r0 H2 → K2 r0 H2) : c_value_depth C p_v p_most K2 H :=
  Spec.mono h fun _ H2 ⟨r0, hv, h2⟩ => ⟨r0, hv, hk r0 H2 h2⟩
theorem c_value_depth.gh {C : Ctx} {p_v : T_api_Value} {p_most : Int} {K : Int → Heap → Prop} {H : Heap} (h : c_value_depth C p_v p_most (fun r0 H2 => ∃ H0, Gh C H2 H0 ∧ K r0 H0) H) : c_value_depth C p_v p_most K H :=
  Spec.gh (Spec.mono h fun _ H2 ⟨r0, hv, H0, hg, hk⟩ => ⟨H0, hg, r0, hv, hk⟩)
def c_value_item_look (C : Ctx) (p_v : T_api_Value) (K : Bool → Bool → Heap → Prop) (H : Heap) : Prop :=
  Spec Tryd.prog C 29 [.agg (T_api_Value.c p_v).toArray] H (fun v H2 => ∃ (r0 : Bool) (r1 : Bool), v = .tuple #[.bool r0, .bool r1] ∧ K r0 r1 H2)
theorem c_value_item_look.mono {C : Ctx} {p_v : T_api_Value} {K K2 : Bool → Bool → Heap → Prop} {H : Heap} (h : c_value_item_look C p_v K H) (hk : ∀ r0 r1 H2, K r0 r1 H2 → K2 r0 r1 H2) : c_value_item_look C p_v K2 H :=
  Spec.mono h fun _ H2 ⟨r0, r1, hv, h2⟩ => ⟨r0, r1, hv, hk r0 r1 H2 h2⟩
theorem c_value_item_look.gh {C : Ctx} {p_v : T_api_Value} {K : Bool → Bool → Heap → Prop} {H : Heap} (h : c_value_item_look C p_v (fun r0 r1 H2 => ∃ H0, Gh C H2 H0 ∧ K r0 r1 H0) H) : c_value_item_look C p_v K H :=
  Spec.gh (Spec.mono h fun _ H2 ⟨r0, r1, hv, H0, hg, hk⟩ => ⟨H0, hg, r0, r1, hv, hk⟩)
def c_ref02_Check (C : Ctx) (p_v : T_api_Value) (K : Int → Heap → Prop) (H : Heap) : Prop :=
  Spec Tryd.prog C 30 [.agg (T_api_Value.c p_v).toArray] H (fun v H2 => ∃ (r0 : Int), v = .int .i64 r0 ∧ K r0 H2)
theorem c_ref02_Check.mono {C : Ctx} {p_v : T_api_Value} {K K2 : Int → Heap → Prop} {H : Heap} (h : c_ref02_Check C p_v K H) (hk : ∀ r0 H2, K r0 H2 → K2 r0 H2) : c_ref02_Check C p_v K2 H :=
  Spec.mono h fun _ H2 ⟨r0, hv, h2⟩ => ⟨r0, hv, hk r0 H2 h2⟩
theorem c_ref02_Check.gh {C : Ctx} {p_v : T_api_Value} {K : Int → Heap → Prop} {H : Heap} (h : c_ref02_Check C p_v (fun r0 H2 => ∃ H0, Gh C H2 H0 ∧ K r0 H0) H) : c_ref02_Check C p_v K H :=
  Spec.gh (Spec.mono h fun _ H2 ⟨r0, hv, H0, hg, hk⟩ => ⟨H0, hg, r0, hv, hk⟩)
def c_value_Show_1 (C : Ctx) (p_l : Sl) (v0 : Nat × Nat) (v1 : Nat × Nat) (K : Heap → Prop) (H : Heap) : Prop :=
  Spec Tryd.prog C 31 [slv p_l, pv (some v0), pv (some v1)] H (fun v H2 => v = .tuple #[] ∧ K H2)
theorem c_value_Show_1.mono {C : Ctx} {p_l : Sl} {v0 : Nat × Nat} {v1 : Nat × Nat} {K K2 : Heap → Prop} {H : Heap} (h : c_value_Show_1 C p_l v0 v1 K H) (hk : ∀  H2, K  H2 → K2  H2) : c_value_Show_1 C p_l v0 v1 K2 H :=
  Spec.mono h fun _ H2 ⟨hv, h2⟩ => ⟨hv, hk H2 h2⟩
theorem c_value_Show_1.gh {C : Ctx} {p_l : Sl} {v0 : Nat × Nat} {v1 : Nat × Nat} {K : Heap → Prop} {H : Heap} (h : c_value_Show_1 C p_l v0 v1 (fun  H2 => ∃ H0, Gh C H2 H0 ∧ K  H0) H) : c_value_Show_1 C p_l v0 v1 K H :=
  Spec.gh (Spec.mono h fun _ H2 ⟨hv, H0, hg, hk⟩ => ⟨H0, hg, hv, hk⟩)
def c_strings_Builder_WriteByte (C : Ctx) (p_b : Option (Nat × Nat)) (p_c : Int) (K : Value → Heap → Prop) (H : Heap) : Prop :=
  Spec Tryd.prog C 32 [pv p_b, .int .u8 p_c] H (fun v H2 => ∃ (r0 : Value), v = r0 ∧ K r0 H2)
theorem c_strings_Builder_WriteByte.mono {C : Ctx} {p_b : Option (Nat × Nat)} {p_c : Int} {K K2 : Value → Heap → Prop} {H : Heap} (h : c_strings_Builder_WriteByte C p_b p_c K H) (hk : ∀ r0 H2, K r0 H2 → K2 r0 H2) : c_strings_Builder_WriteByte C p_b p_c K2 H :=
  Spec.mono h fun _ H2 ⟨r0, hv, h2⟩ => ⟨r0, hv, hk r0 H2 h2⟩
theorem c_strings_Builder_WriteByte.gh {C : Ctx} {p_b : Option (Nat × Nat)} {p_c : Int} {K : Value → Heap → Prop} {H : Heap} (h : c_strings_Builder_WriteByte C p_b p_c (fun r0 H2 => ∃ H0, Gh C H2 H0 ∧ K r0 H0) H) : c_strings_Builder_WriteByte C p_b p_c K H :=
  Spec.gh (Spec.mono h fun _ H2 ⟨r0, hv, H0, hg, hk⟩ => ⟨H0, hg, r0, hv, hk⟩)
def c_strings_Builder_WriteString (C : Ctx) (p_b : Option (Nat × Nat)) (p_s : Str) (K : Int → Value → Heap → Prop) (H : Heap) : Prop :=
  Spec Tryd.prog C 33 [pv p_b, sv p_s] H (fun v H2 => ∃ (r0 : Int) (r1 : Value), v = .tuple #[.int .i64 r0, r1] ∧ K r0 r1 H2)
theorem c_strings_Builder_WriteString.mono {C : Ctx} {p_b : Option (Nat × Nat)} {p_s : Str} {K K2 : Int → Value → Heap → Prop} {H : Heap} (h : c_strings_Builder_WriteString C p_b p_s K H) (hk : ∀ r0 r1 H2, K r0 r1 H2 → K2 r0 r1 H2) : c_strings_Builder_WriteString C p_b p_s K2 H :=
  Spec.mono h fun _ H2 ⟨r0, r1, hv, h2⟩ => ⟨r0, r1, hv, hk r0 r1 H2 h2⟩
theorem c_strings_Builder_WriteString.gh {C : Ctx} {p_b : Option (Nat × Nat)} {p_s : Str} {K : Int → Value → Heap → Prop} {H : Heap} (h : c_strings_Builder_WriteString C p_b p_s (fun r0 r1 H2 => ∃ H0, Gh C H2 H0 ∧ K r0 r1 H0) H) : c_strings_Builder_WriteString C p_b p_s K H :=
  Spec.gh (Spec.mono h fun _ H2 ⟨r0, r1, hv, H0, hg, hk⟩ => ⟨H0, hg, r0, r1, hv, hk⟩)
def c_value_Show_2 (C : Ctx) (p_v : T_api_Value) (v0 : Nat × Nat) (v1 : Nat × Nat) (K : Heap → Prop) (H : Heap) : Prop :=
  Spec Tryd.prog C 34 [.agg (T_api_Value.c p_v).toArray, pv (some v0), pv (some v1)] H (fun v H2 => v = .tuple #[] ∧ K H2)
theorem c_value_Show_2.mono {C : Ctx} {p_v : T_api_Value} {v0 : Nat × Nat} {v1 : Nat × Nat} {K K2 : Heap → Prop} {H : Heap} (h : c_value_Show_2 C p_v v0 v1 K H) (hk : ∀  H2, K  H2 → K2  H2) : c_value_Show_2 C p_v v0 v1 K2 H :=
  Spec.mono h fun _ H2 ⟨hv, h2⟩ => ⟨hv, hk H2 h2⟩
theorem c_value_Show_2.gh {C : Ctx} {p_v : T_api_Value} {v0 : Nat × Nat} {v1 : Nat × Nat} {K : Heap → Prop} {H : Heap} (h : c_value_Show_2 C p_v v0 v1 (fun  H2 => ∃ H0, Gh C H2 H0 ∧ K  H0) H) : c_value_Show_2 C p_v v0 v1 K H :=
  Spec.gh (Spec.mono h fun _ H2 ⟨hv, H0, hg, hk⟩ => ⟨H0, hg, hv, hk⟩)
def c_strconv_FormatBool (C : Ctx) (p_b : Bool) (K : Str → Heap → Prop) (H : Heap) : Prop :=
  Spec Tryd.prog C 35 [.bool p_b] H (fun v H2 => ∃ (r0 : Str), v = sv r0 ∧ K r0 H2)
theorem c_strconv_FormatBool.mono {C : Ctx} {p_b : Bool} {K K2 : Str → Heap → Prop} {H : Heap} (h : c_strconv_FormatBool C p_b K H) (hk : ∀ r0 H2, K r0 H2 → K2 r0 H2) : c_strconv_FormatBool C p_b K2 H :=
  Spec.mono h fun _ H2 ⟨r0, hv, h2⟩ => ⟨r0, hv, hk r0 H2 h2⟩
theorem c_strconv_FormatBool.gh {C : Ctx} {p_b : Bool} {K : Str → Heap → Prop} {H : Heap} (h : c_strconv_FormatBool C p_b (fun r0 H2 => ∃ H0, Gh C H2 H0 ∧ K r0 H0) H) : c_strconv_FormatBool C p_b K H :=
  Spec.gh (Spec.mono h fun _ H2 ⟨r0, hv, H0, hg, hk⟩ => ⟨H0, hg, r0, hv, hk⟩)
def c_strconv_FormatInt (C : Ctx) (p_i : Int) (p_base : Int) (K : Str → Heap → Prop) (H : Heap) : Prop :=
  Spec Tryd.prog C 36 [.int .i64 p_i, .int .i64 p_base] H (fun v H2 => ∃ (r0 : Str), v = sv r0 ∧ K r0 H2)
theorem c_strconv_FormatInt.mono {C : Ctx} {p_i : Int} {p_base : Int} {K K2 : Str → Heap → Prop} {H : Heap} (h : c_strconv_FormatInt C p_i p_base K H) (hk : ∀ r0 H2, K r0 H2 → K2 r0 H2) : c_strconv_FormatInt C p_i p_base K2 H :=
  Spec.mono h fun _ H2 ⟨r0, hv, h2⟩ => ⟨r0, hv, hk r0 H2 h2⟩
theorem c_strconv_FormatInt.gh {C : Ctx} {p_i : Int} {p_base : Int} {K : Str → Heap → Prop} {H : Heap} (h : c_strconv_FormatInt C p_i p_base (fun r0 H2 => ∃ H0, Gh C H2 H0 ∧ K r0 H0) H) : c_strconv_FormatInt C p_i p_base K H :=
  Spec.gh (Spec.mono h fun _ H2 ⟨r0, hv, H0, hg, hk⟩ => ⟨H0, hg, r0, hv, hk⟩)
def c_value_quote (C : Ctx) (p_b : Option (Nat × Nat)) (p_s : Str) (K : Heap → Prop) (H : Heap) : Prop :=
  Spec Tryd.prog C 37 [pv p_b, sv p_s] H (fun v H2 => v = .tuple #[] ∧ K H2)
theorem c_value_quote.mono {C : Ctx} {p_b : Option (Nat × Nat)} {p_s : Str} {K K2 : Heap → Prop} {H : Heap} (h : c_value_quote C p_b p_s K H) (hk : ∀  H2, K  H2 → K2  H2) : c_value_quote C p_b p_s K2 H :=
  Spec.mono h fun _ H2 ⟨hv, h2⟩ => ⟨hv, hk H2 h2⟩
theorem c_value_quote.gh {C : Ctx} {p_b : Option (Nat × Nat)} {p_s : Str} {K : Heap → Prop} {H : Heap} (h : c_value_quote C p_b p_s (fun  H2 => ∃ H0, Gh C H2 H0 ∧ K  H0) H) : c_value_quote C p_b p_s K H :=
  Spec.gh (Spec.mono h fun _ H2 ⟨hv, H0, hg, hk⟩ => ⟨H0, hg, hv, hk⟩)
def c_strings_Builder_String (C : Ctx) (p_b : Option (Nat × Nat)) (K : Str → Heap → Prop) (H : Heap) : Prop :=
  Spec Tryd.prog C 38 [pv p_b] H (fun v H2 => ∃ (r0 : Str), v = sv r0 ∧ K r0 H2)
theorem c_strings_Builder_String.mono {C : Ctx} {p_b : Option (Nat × Nat)} {K K2 : Str → Heap → Prop} {H : Heap} (h : c_strings_Builder_String C p_b K H) (hk : ∀ r0 H2, K r0 H2 → K2 r0 H2) : c_strings_Builder_String C p_b K2 H :=
  Spec.mono h fun _ H2 ⟨r0, hv, h2⟩ => ⟨r0, hv, hk r0 H2 h2⟩
theorem c_strings_Builder_String.gh {C : Ctx} {p_b : Option (Nat × Nat)} {K : Str → Heap → Prop} {H : Heap} (h : c_strings_Builder_String C p_b (fun r0 H2 => ∃ H0, Gh C H2 H0 ∧ K r0 H0) H) : c_strings_Builder_String C p_b K H :=
  Spec.gh (Spec.mono h fun _ H2 ⟨r0, hv, H0, hg, hk⟩ => ⟨H0, hg, r0, hv, hk⟩)
def c_value_number (C : Ctx) (p_s : Str) (K : Int → Bool → Heap → Prop) (H : Heap) : Prop :=
  Spec Tryd.prog C 39 [sv p_s] H (fun v H2 => ∃ (r0 : Int) (r1 : Bool), v = .tuple #[.int .i64 r0, .bool r1] ∧ K r0 r1 H2)
theorem c_value_number.mono {C : Ctx} {p_s : Str} {K K2 : Int → Bool → Heap → Prop} {H : Heap} (h : c_value_number C p_s K H) (hk : ∀ r0 r1 H2, K r0 r1 H2 → K2 r0 r1 H2) : c_value_number C p_s K2 H :=
  Spec.mono h fun _ H2 ⟨r0, r1, hv, h2⟩ => ⟨r0, r1, hv, hk r0 r1 H2 h2⟩
theorem c_value_number.gh {C : Ctx} {p_s : Str} {K : Int → Bool → Heap → Prop} {H : Heap} (h : c_value_number C p_s (fun r0 r1 H2 => ∃ H0, Gh C H2 H0 ∧ K r0 r1 H0) H) : c_value_number C p_s K H :=
  Spec.gh (Spec.mono h fun _ H2 ⟨r0, r1, hv, H0, hg, hk⟩ => ⟨H0, hg, r0, r1, hv, hk⟩)
def c_strings_Cut (C : Ctx) (p_s : Str) (p_sep : Str) (K : Str → Str → Bool → Heap → Prop) (H : Heap) : Prop :=
  Spec Tryd.prog C 40 [sv p_s, sv p_sep] H (fun v H2 => ∃ (r0 : Str) (r1 : Str) (r2 : Bool), v = .tuple #[sv r0, sv r1, .bool r2] ∧ K r0 r1 r2 H2)
theorem c_strings_Cut.mono {C : Ctx} {p_s : Str} {p_sep : Str} {K K2 : Str → Str → Bool → Heap → Prop} {H : Heap} (h : c_strings_Cut C p_s p_sep K H) (hk : ∀ r0 r1 r2 H2, K r0 r1 r2 H2 → K2 r0 r1 r2 H2) : c_strings_Cut C p_s p_sep K2 H :=
  Spec.mono h fun _ H2 ⟨r0, r1, r2, hv, h2⟩ => ⟨r0, r1, r2, hv, hk r0 r1 r2 H2 h2⟩
theorem c_strings_Cut.gh {C : Ctx} {p_s : Str} {p_sep : Str} {K : Str → Str → Bool → Heap → Prop} {H : Heap} (h : c_strings_Cut C p_s p_sep (fun r0 r1 r2 H2 => ∃ H0, Gh C H2 H0 ∧ K r0 r1 r2 H0) H) : c_strings_Cut C p_s p_sep K H :=
  Spec.gh (Spec.mono h fun _ H2 ⟨r0, r1, r2, hv, H0, hg, hk⟩ => ⟨H0, hg, r0, r1, r2, hv, hk⟩)
def c_value_name (C : Ctx) (p_s : Str) (K : Bool → Heap → Prop) (H : Heap) : Prop :=
  Spec Tryd.prog C 41 [sv p_s] H (fun v H2 => ∃ (r0 : Bool), v = .bool r0 ∧ K r0 H2)
theorem c_value_name.mono {C : Ctx} {p_s : Str} {K K2 : Bool → Heap → Prop} {H : Heap} (h : c_value_name C p_s K H) (hk : ∀ r0 H2, K r0 H2 → K2 r0 H2) : c_value_name C p_s K2 H :=
  Spec.mono h fun _ H2 ⟨r0, hv, h2⟩ => ⟨r0, hv, hk r0 H2 h2⟩
theorem c_value_name.gh {C : Ctx} {p_s : Str} {K : Bool → Heap → Prop} {H : Heap} (h : c_value_name C p_s (fun r0 H2 => ∃ H0, Gh C H2 H0 ∧ K r0 H0) H) : c_value_name C p_s K H :=
  Spec.gh (Spec.mono h fun _ H2 ⟨r0, hv, H0, hg, hk⟩ => ⟨H0, hg, r0, hv, hk⟩)
def c_ref02_Depth (C : Ctx) (p_v : T_api_Value) (K : Int → Heap → Prop) (H : Heap) : Prop :=
  Spec Tryd.prog C 42 [.agg (T_api_Value.c p_v).toArray] H (fun v H2 => ∃ (r0 : Int), v = .int .i64 r0 ∧ K r0 H2)
theorem c_ref02_Depth.mono {C : Ctx} {p_v : T_api_Value} {K K2 : Int → Heap → Prop} {H : Heap} (h : c_ref02_Depth C p_v K H) (hk : ∀ r0 H2, K r0 H2 → K2 r0 H2) : c_ref02_Depth C p_v K2 H :=
  Spec.mono h fun _ H2 ⟨r0, hv, h2⟩ => ⟨r0, hv, hk r0 H2 h2⟩
theorem c_ref02_Depth.gh {C : Ctx} {p_v : T_api_Value} {K : Int → Heap → Prop} {H : Heap} (h : c_ref02_Depth C p_v (fun r0 H2 => ∃ H0, Gh C H2 H0 ∧ K r0 H0) H) : c_ref02_Depth C p_v K H :=
  Spec.gh (Spec.mono h fun _ H2 ⟨r0, hv, H0, hg, hk⟩ => ⟨H0, hg, r0, hv, hk⟩)
def c_ref02_form (C : Ctx) (p_v : T_api_Value) (K : Bool → Heap → Prop) (H : Heap) : Prop :=
  Spec Tryd.prog C 43 [.agg (T_api_Value.c p_v).toArray] H (fun v H2 => ∃ (r0 : Bool), v = .bool r0 ∧ K r0 H2)
theorem c_ref02_form.mono {C : Ctx} {p_v : T_api_Value} {K K2 : Bool → Heap → Prop} {H : Heap} (h : c_ref02_form C p_v K H) (hk : ∀ r0 H2, K r0 H2 → K2 r0 H2) : c_ref02_form C p_v K2 H :=
  Spec.mono h fun _ H2 ⟨r0, hv, h2⟩ => ⟨r0, hv, hk r0 H2 h2⟩
theorem c_ref02_form.gh {C : Ctx} {p_v : T_api_Value} {K : Bool → Heap → Prop} {H : Heap} (h : c_ref02_form C p_v (fun r0 H2 => ∃ H0, Gh C H2 H0 ∧ K r0 H0) H) : c_ref02_form C p_v K H :=
  Spec.gh (Spec.mono h fun _ H2 ⟨r0, hv, H0, hg, hk⟩ => ⟨H0, hg, r0, hv, hk⟩)
def c_ref02_fits (C : Ctx) (p_v : T_api_Value) (K : Bool → Heap → Prop) (H : Heap) : Prop :=
  Spec Tryd.prog C 44 [.agg (T_api_Value.c p_v).toArray] H (fun v H2 => ∃ (r0 : Bool), v = .bool r0 ∧ K r0 H2)
theorem c_ref02_fits.mono {C : Ctx} {p_v : T_api_Value} {K K2 : Bool → Heap → Prop} {H : Heap} (h : c_ref02_fits C p_v K H) (hk : ∀ r0 H2, K r0 H2 → K2 r0 H2) : c_ref02_fits C p_v K2 H :=
  Spec.mono h fun _ H2 ⟨r0, hv, h2⟩ => ⟨r0, hv, hk r0 H2 h2⟩
theorem c_ref02_fits.gh {C : Ctx} {p_v : T_api_Value} {K : Bool → Heap → Prop} {H : Heap} (h : c_ref02_fits C p_v (fun r0 H2 => ∃ H0, Gh C H2 H0 ∧ K r0 H0) H) : c_ref02_fits C p_v K H :=
  Spec.gh (Spec.mono h fun _ H2 ⟨r0, hv, H0, hg, hk⟩ => ⟨H0, hg, r0, hv, hk⟩)
def c_strings_Builder_copyCheck (C : Ctx) (p_b : Option (Nat × Nat)) (K : Heap → Prop) (H : Heap) : Prop :=
  Spec Tryd.prog C 45 [pv p_b] H (fun v H2 => v = .tuple #[] ∧ K H2)
theorem c_strings_Builder_copyCheck.mono {C : Ctx} {p_b : Option (Nat × Nat)} {K K2 : Heap → Prop} {H : Heap} (h : c_strings_Builder_copyCheck C p_b K H) (hk : ∀  H2, K  H2 → K2  H2) : c_strings_Builder_copyCheck C p_b K2 H :=
  Spec.mono h fun _ H2 ⟨hv, h2⟩ => ⟨hv, hk H2 h2⟩
theorem c_strings_Builder_copyCheck.gh {C : Ctx} {p_b : Option (Nat × Nat)} {K : Heap → Prop} {H : Heap} (h : c_strings_Builder_copyCheck C p_b (fun  H2 => ∃ H0, Gh C H2 H0 ∧ K  H0) H) : c_strings_Builder_copyCheck C p_b K H :=
  Spec.gh (Spec.mono h fun _ H2 ⟨hv, H0, hg, hk⟩ => ⟨H0, hg, hv, hk⟩)
def c_internal_strconv_FormatBool (C : Ctx) (p_b : Bool) (K : Str → Heap → Prop) (H : Heap) : Prop :=
  Spec Tryd.prog C 46 [.bool p_b] H (fun v H2 => ∃ (r0 : Str), v = sv r0 ∧ K r0 H2)
theorem c_internal_strconv_FormatBool.mono {C : Ctx} {p_b : Bool} {K K2 : Str → Heap → Prop} {H : Heap} (h : c_internal_strconv_FormatBool C p_b K H) (hk : ∀ r0 H2, K r0 H2 → K2 r0 H2) : c_internal_strconv_FormatBool C p_b K2 H :=
  Spec.mono h fun _ H2 ⟨r0, hv, h2⟩ => ⟨r0, hv, hk r0 H2 h2⟩
theorem c_internal_strconv_FormatBool.gh {C : Ctx} {p_b : Bool} {K : Str → Heap → Prop} {H : Heap} (h : c_internal_strconv_FormatBool C p_b (fun r0 H2 => ∃ H0, Gh C H2 H0 ∧ K r0 H0) H) : c_internal_strconv_FormatBool C p_b K H :=
  Spec.gh (Spec.mono h fun _ H2 ⟨r0, hv, H0, hg, hk⟩ => ⟨H0, hg, r0, hv, hk⟩)
def c_strings_TrimPrefix (C : Ctx) (p_s : Str) (p_prefix : Str) (K : Str → Heap → Prop) (H : Heap) : Prop :=
  Spec Tryd.prog C 48 [sv p_s, sv p_prefix] H (fun v H2 => ∃ (r0 : Str), v = sv r0 ∧ K r0 H2)
theorem c_strings_TrimPrefix.mono {C : Ctx} {p_s : Str} {p_prefix : Str} {K K2 : Str → Heap → Prop} {H : Heap} (h : c_strings_TrimPrefix C p_s p_prefix K H) (hk : ∀ r0 H2, K r0 H2 → K2 r0 H2) : c_strings_TrimPrefix C p_s p_prefix K2 H :=
  Spec.mono h fun _ H2 ⟨r0, hv, h2⟩ => ⟨r0, hv, hk r0 H2 h2⟩
theorem c_strings_TrimPrefix.gh {C : Ctx} {p_s : Str} {p_prefix : Str} {K : Str → Heap → Prop} {H : Heap} (h : c_strings_TrimPrefix C p_s p_prefix (fun r0 H2 => ∃ H0, Gh C H2 H0 ∧ K r0 H0) H) : c_strings_TrimPrefix C p_s p_prefix K H :=
  Spec.gh (Spec.mono h fun _ H2 ⟨r0, hv, H0, hg, hk⟩ => ⟨H0, hg, r0, hv, hk⟩)
def c_strings_Trim (C : Ctx) (p_s : Str) (p_cutset : Str) (K : Str → Heap → Prop) (H : Heap) : Prop :=
  Spec Tryd.prog C 49 [sv p_s, sv p_cutset] H (fun v H2 => ∃ (r0 : Str), v = sv r0 ∧ K r0 H2)
theorem c_strings_Trim.mono {C : Ctx} {p_s : Str} {p_cutset : Str} {K K2 : Str → Heap → Prop} {H : Heap} (h : c_strings_Trim C p_s p_cutset K H) (hk : ∀ r0 H2, K r0 H2 → K2 r0 H2) : c_strings_Trim C p_s p_cutset K2 H :=
  Spec.mono h fun _ H2 ⟨r0, hv, h2⟩ => ⟨r0, hv, hk r0 H2 h2⟩
theorem c_strings_Trim.gh {C : Ctx} {p_s : Str} {p_cutset : Str} {K : Str → Heap → Prop} {H : Heap} (h : c_strings_Trim C p_s p_cutset (fun r0 H2 => ∃ H0, Gh C H2 H0 ∧ K r0 H0) H) : c_strings_Trim C p_s p_cutset K H :=
  Spec.gh (Spec.mono h fun _ H2 ⟨r0, hv, H0, hg, hk⟩ => ⟨H0, hg, r0, hv, hk⟩)
def c_internal_stringslite_Cut (C : Ctx) (p_s : Str) (p_sep : Str) (K : Str → Str → Bool → Heap → Prop) (H : Heap) : Prop :=
  Spec Tryd.prog C 50 [sv p_s, sv p_sep] H (fun v H2 => ∃ (r0 : Str) (r1 : Str) (r2 : Bool), v = .tuple #[sv r0, sv r1, .bool r2] ∧ K r0 r1 r2 H2)
theorem c_internal_stringslite_Cut.mono {C : Ctx} {p_s : Str} {p_sep : Str} {K K2 : Str → Str → Bool → Heap → Prop} {H : Heap} (h : c_internal_stringslite_Cut C p_s p_sep K H) (hk : ∀ r0 r1 r2 H2, K r0 r1 r2 H2 → K2 r0 r1 r2 H2) : c_internal_stringslite_Cut C p_s p_sep K2 H :=
  Spec.mono h fun _ H2 ⟨r0, r1, r2, hv, h2⟩ => ⟨r0, r1, r2, hv, hk r0 r1 r2 H2 h2⟩
theorem c_internal_stringslite_Cut.gh {C : Ctx} {p_s : Str} {p_sep : Str} {K : Str → Str → Bool → Heap → Prop} {H : Heap} (h : c_internal_stringslite_Cut C p_s p_sep (fun r0 r1 r2 H2 => ∃ H0, Gh C H2 H0 ∧ K r0 r1 r2 H0) H) : c_internal_stringslite_Cut C p_s p_sep K H :=
  Spec.gh (Spec.mono h fun _ H2 ⟨r0, r1, r2, hv, H0, hg, hk⟩ => ⟨H0, hg, r0, r1, r2, hv, hk⟩)
def c_ref02_Number (C : Ctx) (p_s : Str) (K : Bool → Heap → Prop) (H : Heap) : Prop :=
  Spec Tryd.prog C 51 [sv p_s] H (fun v H2 => ∃ (r0 : Bool), v = .bool r0 ∧ K r0 H2)
theorem c_ref02_Number.mono {C : Ctx} {p_s : Str} {K K2 : Bool → Heap → Prop} {H : Heap} (h : c_ref02_Number C p_s K H) (hk : ∀ r0 H2, K r0 H2 → K2 r0 H2) : c_ref02_Number C p_s K2 H :=
  Spec.mono h fun _ H2 ⟨r0, hv, h2⟩ => ⟨r0, hv, hk r0 H2 h2⟩
theorem c_ref02_Number.gh {C : Ctx} {p_s : Str} {K : Bool → Heap → Prop} {H : Heap} (h : c_ref02_Number C p_s (fun r0 H2 => ∃ H0, Gh C H2 H0 ∧ K r0 H0) H) : c_ref02_Number C p_s K H :=
  Spec.gh (Spec.mono h fun _ H2 ⟨r0, hv, H0, hg, hk⟩ => ⟨H0, hg, r0, hv, hk⟩)
def c_ref02_Names (C : Ctx) (p_s : Str) (K : Bool → Heap → Prop) (H : Heap) : Prop :=
  Spec Tryd.prog C 52 [sv p_s] H (fun v H2 => ∃ (r0 : Bool), v = .bool r0 ∧ K r0 H2)
theorem c_ref02_Names.mono {C : Ctx} {p_s : Str} {K K2 : Bool → Heap → Prop} {H : Heap} (h : c_ref02_Names C p_s K H) (hk : ∀ r0 H2, K r0 H2 → K2 r0 H2) : c_ref02_Names C p_s K2 H :=
  Spec.mono h fun _ H2 ⟨r0, hv, h2⟩ => ⟨r0, hv, hk r0 H2 h2⟩
theorem c_ref02_Names.gh {C : Ctx} {p_s : Str} {K : Bool → Heap → Prop} {H : Heap} (h : c_ref02_Names C p_s (fun r0 H2 => ∃ H0, Gh C H2 H0 ∧ K r0 H0) H) : c_ref02_Names C p_s K H :=
  Spec.gh (Spec.mono h fun _ H2 ⟨r0, hv, H0, hg, hk⟩ => ⟨H0, hg, r0, hv, hk⟩)
def c_ref02_Digits (C : Ctx) (p_s : Str) (K : Int → Heap → Prop) (H : Heap) : Prop :=
  Spec Tryd.prog C 53 [sv p_s] H (fun v H2 => ∃ (r0 : Int), v = .int .i64 r0 ∧ K r0 H2)
theorem c_ref02_Digits.mono {C : Ctx} {p_s : Str} {K K2 : Int → Heap → Prop} {H : Heap} (h : c_ref02_Digits C p_s K H) (hk : ∀ r0 H2, K r0 H2 → K2 r0 H2) : c_ref02_Digits C p_s K2 H :=
  Spec.mono h fun _ H2 ⟨r0, hv, h2⟩ => ⟨r0, hv, hk r0 H2 h2⟩
theorem c_ref02_Digits.gh {C : Ctx} {p_s : Str} {K : Int → Heap → Prop} {H : Heap} (h : c_ref02_Digits C p_s (fun r0 H2 => ∃ H0, Gh C H2 H0 ∧ K r0 H0) H) : c_ref02_Digits C p_s K H :=
  Spec.gh (Spec.mono h fun _ H2 ⟨r0, hv, H0, hg, hk⟩ => ⟨H0, hg, r0, hv, hk⟩)
def c_internal_stringslite_TrimPrefix (C : Ctx) (p_s : Str) (p_prefix : Str) (K : Str → Heap → Prop) (H : Heap) : Prop :=
  Spec Tryd.prog C 59 [sv p_s, sv p_prefix] H (fun v H2 => ∃ (r0 : Str), v = sv r0 ∧ K r0 H2)
theorem c_internal_stringslite_TrimPrefix.mono {C : Ctx} {p_s : Str} {p_prefix : Str} {K K2 : Str → Heap → Prop} {H : Heap} (h : c_internal_stringslite_TrimPrefix C p_s p_prefix K H) (hk : ∀ r0 H2, K r0 H2 → K2 r0 H2) : c_internal_stringslite_TrimPrefix C p_s p_prefix K2 H :=
  Spec.mono h fun _ H2 ⟨r0, hv, h2⟩ => ⟨r0, hv, hk r0 H2 h2⟩
theorem c_internal_stringslite_TrimPrefix.gh {C : Ctx} {p_s : Str} {p_prefix : Str} {K : Str → Heap → Prop} {H : Heap} (h : c_internal_stringslite_TrimPrefix C p_s p_prefix (fun r0 H2 => ∃ H0, Gh C H2 H0 ∧ K r0 H0) H) : c_internal_stringslite_TrimPrefix C p_s p_prefix K H :=
  Spec.gh (Spec.mono h fun _ H2 ⟨r0, hv, H0, hg, hk⟩ => ⟨H0, hg, r0, hv, hk⟩)
def c_strings_trimLeftByte (C : Ctx) (p_s : Str) (p_c : Int) (K : Str → Heap → Prop) (H : Heap) : Prop :=
  Spec Tryd.prog C 60 [sv p_s, .int .u8 p_c] H (fun v H2 => ∃ (r0 : Str), v = sv r0 ∧ K r0 H2)
theorem c_strings_trimLeftByte.mono {C : Ctx} {p_s : Str} {p_c : Int} {K K2 : Str → Heap → Prop} {H : Heap} (h : c_strings_trimLeftByte C p_s p_c K H) (hk : ∀ r0 H2, K r0 H2 → K2 r0 H2) : c_strings_trimLeftByte C p_s p_c K2 H :=
  Spec.mono h fun _ H2 ⟨r0, hv, h2⟩ => ⟨r0, hv, hk r0 H2 h2⟩
theorem c_strings_trimLeftByte.gh {C : Ctx} {p_s : Str} {p_c : Int} {K : Str → Heap → Prop} {H : Heap} (h : c_strings_trimLeftByte C p_s p_c (fun r0 H2 => ∃ H0, Gh C H2 H0 ∧ K r0 H0) H) : c_strings_trimLeftByte C p_s p_c K H :=
  Spec.gh (Spec.mono h fun _ H2 ⟨r0, hv, H0, hg, hk⟩ => ⟨H0, hg, r0, hv, hk⟩)
def c_strings_trimRightByte (C : Ctx) (p_s : Str) (p_c : Int) (K : Str → Heap → Prop) (H : Heap) : Prop :=
  Spec Tryd.prog C 61 [sv p_s, .int .u8 p_c] H (fun v H2 => ∃ (r0 : Str), v = sv r0 ∧ K r0 H2)
theorem c_strings_trimRightByte.mono {C : Ctx} {p_s : Str} {p_c : Int} {K K2 : Str → Heap → Prop} {H : Heap} (h : c_strings_trimRightByte C p_s p_c K H) (hk : ∀ r0 H2, K r0 H2 → K2 r0 H2) : c_strings_trimRightByte C p_s p_c K2 H :=
  Spec.mono h fun _ H2 ⟨r0, hv, h2⟩ => ⟨r0, hv, hk r0 H2 h2⟩
theorem c_strings_trimRightByte.gh {C : Ctx} {p_s : Str} {p_c : Int} {K : Str → Heap → Prop} {H : Heap} (h : c_strings_trimRightByte C p_s p_c (fun r0 H2 => ∃ H0, Gh C H2 H0 ∧ K r0 H0) H) : c_strings_trimRightByte C p_s p_c K H :=
  Spec.gh (Spec.mono h fun _ H2 ⟨r0, hv, H0, hg, hk⟩ => ⟨H0, hg, r0, hv, hk⟩)
def c_strings_makeASCIISet (C : Ctx) (p_chars : Str) (K : List Value → Bool → Heap → Prop) (H : Heap) : Prop :=
  Spec Tryd.prog C 62 [sv p_chars] H (fun v H2 => ∃ (r0 : List Value) (r1 : Bool), v = .tuple #[.agg (List.toArray r0), .bool r1] ∧ K r0 r1 H2)
theorem c_strings_makeASCIISet.mono {C : Ctx} {p_chars : Str} {K K2 : List Value → Bool → Heap → Prop} {H : Heap} (h : c_strings_makeASCIISet C p_chars K H) (hk : ∀ r0 r1 H2, K r0 r1 H2 → K2 r0 r1 H2) : c_strings_makeASCIISet C p_chars K2 H :=
  Spec.mono h fun _ H2 ⟨r0, r1, hv, h2⟩ => ⟨r0, r1, hv, hk r0 r1 H2 h2⟩
theorem c_strings_makeASCIISet.gh {C : Ctx} {p_chars : Str} {K : List Value → Bool → Heap → Prop} {H : Heap} (h : c_strings_makeASCIISet C p_chars (fun r0 r1 H2 => ∃ H0, Gh C H2 H0 ∧ K r0 r1 H0) H) : c_strings_makeASCIISet C p_chars K H :=
  Spec.gh (Spec.mono h fun _ H2 ⟨r0, r1, hv, H0, hg, hk⟩ => ⟨H0, hg, r0, r1, hv, hk⟩)
def c_strings_trimLeftASCII (C : Ctx) (p_s : Str) (p_as : Option (Nat × Nat)) (K : Str → Heap → Prop) (H : Heap) : Prop :=
  Spec Tryd.prog C 63 [sv p_s, pv p_as] H (fun v H2 => ∃ (r0 : Str), v = sv r0 ∧ K r0 H2)
theorem c_strings_trimLeftASCII.mono {C : Ctx} {p_s : Str} {p_as : Option (Nat × Nat)} {K K2 : Str → Heap → Prop} {H : Heap} (h : c_strings_trimLeftASCII C p_s p_as K H) (hk : ∀ r0 H2, K r0 H2 → K2 r0 H2) : c_strings_trimLeftASCII C p_s p_as K2 H :=
  Spec.mono h fun _ H2 ⟨r0, hv, h2⟩ => ⟨r0, hv, hk r0 H2 h2⟩
theorem c_strings_trimLeftASCII.gh {C : Ctx} {p_s : Str} {p_as : Option (Nat × Nat)} {K : Str → Heap → Prop} {H : Heap} (h : c_strings_trimLeftASCII C p_s p_as (fun r0 H2 => ∃ H0, Gh C H2 H0 ∧ K r0 H0) H) : c_strings_trimLeftASCII C p_s p_as K H :=
  Spec.gh (Spec.mono h fun _ H2 ⟨r0, hv, H0, hg, hk⟩ => ⟨H0, hg, r0, hv, hk⟩)
def c_strings_trimRightASCII (C : Ctx) (p_s : Str) (p_as : Option (Nat × Nat)) (K : Str → Heap → Prop) (H : Heap) : Prop :=
  Spec Tryd.prog C 64 [sv p_s, pv p_as] H (fun v H2 => ∃ (r0 : Str), v = sv r0 ∧ K r0 H2)
theorem c_strings_trimRightASCII.mono {C : Ctx} {p_s : Str} {p_as : Option (Nat × Nat)} {K K2 : Str → Heap → Prop} {H : Heap} (h : c_strings_trimRightASCII C p_s p_as K H) (hk : ∀ r0 H2, K r0 H2 → K2 r0 H2) : c_strings_trimRightASCII C p_s p_as K2 H :=
  Spec.mono h fun _ H2 ⟨r0, hv, h2⟩ => ⟨r0, hv, hk r0 H2 h2⟩
theorem c_strings_trimRightASCII.gh {C : Ctx} {p_s : Str} {p_as : Option (Nat × Nat)} {K : Str → Heap → Prop} {H : Heap} (h : c_strings_trimRightASCII C p_s p_as (fun r0 H2 => ∃ H0, Gh C H2 H0 ∧ K r0 H0) H) : c_strings_trimRightASCII C p_s p_as K H :=
  Spec.gh (Spec.mono h fun _ H2 ⟨r0, hv, H0, hg, hk⟩ => ⟨H0, hg, r0, hv, hk⟩)
def c_strings_trimLeftUnicode (C : Ctx) (p_s : Str) (p_cutset : Str) (K : Str → Heap → Prop) (H : Heap) : Prop :=
  Spec Tryd.prog C 65 [sv p_s, sv p_cutset] H (fun v H2 => ∃ (r0 : Str), v = sv r0 ∧ K r0 H2)
theorem c_strings_trimLeftUnicode.mono {C : Ctx} {p_s : Str} {p_cutset : Str} {K K2 : Str → Heap → Prop} {H : Heap} (h : c_strings_trimLeftUnicode C p_s p_cutset K H) (hk : ∀ r0 H2, K r0 H2 → K2 r0 H2) : c_strings_trimLeftUnicode C p_s p_cutset K2 H :=
  Spec.mono h fun _ H2 ⟨r0, hv, h2⟩ => ⟨r0, hv, hk r0 H2 h2⟩
theorem c_strings_trimLeftUnicode.gh {C : Ctx} {p_s : Str} {p_cutset : Str} {K : Str → Heap → Prop} {H : Heap} (h : c_strings_trimLeftUnicode C p_s p_cutset (fun r0 H2 => ∃ H0, Gh C H2 H0 ∧ K r0 H0) H) : c_strings_trimLeftUnicode C p_s p_cutset K H :=
  Spec.gh (Spec.mono h fun _ H2 ⟨r0, hv, H0, hg, hk⟩ => ⟨H0, hg, r0, hv, hk⟩)
def c_strings_trimRightUnicode (C : Ctx) (p_s : Str) (p_cutset : Str) (K : Str → Heap → Prop) (H : Heap) : Prop :=
  Spec Tryd.prog C 66 [sv p_s, sv p_cutset] H (fun v H2 => ∃ (r0 : Str), v = sv r0 ∧ K r0 H2)
theorem c_strings_trimRightUnicode.mono {C : Ctx} {p_s : Str} {p_cutset : Str} {K K2 : Str → Heap → Prop} {H : Heap} (h : c_strings_trimRightUnicode C p_s p_cutset K H) (hk : ∀ r0 H2, K r0 H2 → K2 r0 H2) : c_strings_trimRightUnicode C p_s p_cutset K2 H :=
  Spec.mono h fun _ H2 ⟨r0, hv, h2⟩ => ⟨r0, hv, hk r0 H2 h2⟩
theorem c_strings_trimRightUnicode.gh {C : Ctx} {p_s : Str} {p_cutset : Str} {K : Str → Heap → Prop} {H : Heap} (h : c_strings_trimRightUnicode C p_s p_cutset (fun r0 H2 => ∃ H0, Gh C H2 H0 ∧ K r0 H0) H) : c_strings_trimRightUnicode C p_s p_cutset K H :=
  Spec.gh (Spec.mono h fun _ H2 ⟨r0, hv, H0, hg, hk⟩ => ⟨H0, hg, r0, hv, hk⟩)
def c_internal_stringslite_Index (C : Ctx) (p_s : Str) (p_substr : Str) (K : Int → Heap → Prop) (H : Heap) : Prop :=
  Spec Tryd.prog C 67 [sv p_s, sv p_substr] H (fun v H2 => ∃ (r0 : Int), v = .int .i64 r0 ∧ K r0 H2)
theorem c_internal_stringslite_Index.mono {C : Ctx} {p_s : Str} {p_substr : Str} {K K2 : Int → Heap → Prop} {H : Heap} (h : c_internal_stringslite_Index C p_s p_substr K H) (hk : ∀ r0 H2, K r0 H2 → K2 r0 H2) : c_internal_stringslite_Index C p_s p_substr K2 H :=
  Spec.mono h fun _ H2 ⟨r0, hv, h2⟩ => ⟨r0, hv, hk r0 H2 h2⟩
theorem c_internal_stringslite_Index.gh {C : Ctx} {p_s : Str} {p_substr : Str} {K : Int → Heap → Prop} {H : Heap} (h : c_internal_stringslite_Index C p_s p_substr (fun r0 H2 => ∃ H0, Gh C H2 H0 ∧ K r0 H0) H) : c_internal_stringslite_Index C p_s p_substr K H :=
  Spec.gh (Spec.mono h fun _ H2 ⟨r0, hv, H0, hg, hk⟩ => ⟨H0, hg, r0, hv, hk⟩)
def c_ref02_Name (C : Ctx) (p_s : Str) (K : Bool → Heap → Prop) (H : Heap) : Prop :=
  Spec Tryd.prog C 68 [sv p_s] H (fun v H2 => ∃ (r0 : Bool), v = .bool r0 ∧ K r0 H2)
theorem c_ref02_Name.mono {C : Ctx} {p_s : Str} {K K2 : Bool → Heap → Prop} {H : Heap} (h : c_ref02_Name C p_s K H) (hk : ∀ r0 H2, K r0 H2 → K2 r0 H2) : c_ref02_Name C p_s K2 H :=
  Spec.mono h fun _ H2 ⟨r0, hv, h2⟩ => ⟨r0, hv, hk r0 H2 h2⟩
theorem c_ref02_Name.gh {C : Ctx} {p_s : Str} {K : Bool → Heap → Prop} {H : Heap} (h : c_ref02_Name C p_s (fun r0 H2 => ∃ H0, Gh C H2 H0 ∧ K r0 H0) H) : c_ref02_Name C p_s K H :=
  Spec.gh (Spec.mono h fun _ H2 ⟨r0, hv, H0, hg, hk⟩ => ⟨H0, hg, r0, hv, hk⟩)
def c_internal_stringslite_HasPrefix (C : Ctx) (p_s : Str) (p_prefix : Str) (K : Bool → Heap → Prop) (H : Heap) : Prop :=
  Spec Tryd.prog C 74 [sv p_s, sv p_prefix] H (fun v H2 => ∃ (r0 : Bool), v = .bool r0 ∧ K r0 H2)
theorem c_internal_stringslite_HasPrefix.mono {C : Ctx} {p_s : Str} {p_prefix : Str} {K K2 : Bool → Heap → Prop} {H : Heap} (h : c_internal_stringslite_HasPrefix C p_s p_prefix K H) (hk : ∀ r0 H2, K r0 H2 → K2 r0 H2) : c_internal_stringslite_HasPrefix C p_s p_prefix K2 H :=
  Spec.mono h fun _ H2 ⟨r0, hv, h2⟩ => ⟨r0, hv, hk r0 H2 h2⟩
theorem c_internal_stringslite_HasPrefix.gh {C : Ctx} {p_s : Str} {p_prefix : Str} {K : Bool → Heap → Prop} {H : Heap} (h : c_internal_stringslite_HasPrefix C p_s p_prefix (fun r0 H2 => ∃ H0, Gh C H2 H0 ∧ K r0 H0) H) : c_internal_stringslite_HasPrefix C p_s p_prefix K H :=
  Spec.gh (Spec.mono h fun _ H2 ⟨r0, hv, H0, hg, hk⟩ => ⟨H0, hg, r0, hv, hk⟩)
def c_strings_asciiSet_contains (C : Ctx) (p_as : Option (Nat × Nat)) (p_c : Int) (K : Bool → Heap → Prop) (H : Heap) : Prop :=
  Spec Tryd.prog C 75 [pv p_as, .int .u8 p_c] H (fun v H2 => ∃ (r0 : Bool), v = .bool r0 ∧ K r0 H2)
theorem c_strings_asciiSet_contains.mono {C : Ctx} {p_as : Option (Nat × Nat)} {p_c : Int} {K K2 : Bool → Heap → Prop} {H : Heap} (h : c_strings_asciiSet_contains C p_as p_c K H) (hk : ∀ r0 H2, K r0 H2 → K2 r0 H2) : c_strings_asciiSet_contains C p_as p_c K2 H :=
  Spec.mono h fun _ H2 ⟨r0, hv, h2⟩ => ⟨r0, hv, hk r0 H2 h2⟩
theorem c_strings_asciiSet_contains.gh {C : Ctx} {p_as : Option (Nat × Nat)} {p_c : Int} {K : Bool → Heap → Prop} {H : Heap} (h : c_strings_asciiSet_contains C p_as p_c (fun r0 H2 => ∃ H0, Gh C H2 H0 ∧ K r0 H0) H) : c_strings_asciiSet_contains C p_as p_c K H :=
  Spec.gh (Spec.mono h fun _ H2 ⟨r0, hv, H0, hg, hk⟩ => ⟨H0, hg, r0, hv, hk⟩)
def c_internal_stringslite_IndexByte (C : Ctx) (p_s : Str) (p_c : Int) (K : Int → Heap → Prop) (H : Heap) : Prop :=
  Spec Tryd.prog C 79 [sv p_s, .int .u8 p_c] H (fun v H2 => ∃ (r0 : Int), v = .int .i64 r0 ∧ K r0 H2)
theorem c_internal_stringslite_IndexByte.mono {C : Ctx} {p_s : Str} {p_c : Int} {K K2 : Int → Heap → Prop} {H : Heap} (h : c_internal_stringslite_IndexByte C p_s p_c K H) (hk : ∀ r0 H2, K r0 H2 → K2 r0 H2) : c_internal_stringslite_IndexByte C p_s p_c K2 H :=
  Spec.mono h fun _ H2 ⟨r0, hv, h2⟩ => ⟨r0, hv, hk r0 H2 h2⟩
theorem c_internal_stringslite_IndexByte.gh {C : Ctx} {p_s : Str} {p_c : Int} {K : Int → Heap → Prop} {H : Heap} (h : c_internal_stringslite_IndexByte C p_s p_c (fun r0 H2 => ∃ H0, Gh C H2 H0 ∧ K r0 H0) H) : c_internal_stringslite_IndexByte C p_s p_c K H :=
  Spec.gh (Spec.mono h fun _ H2 ⟨r0, hv, H0, hg, hk⟩ => ⟨H0, hg, r0, hv, hk⟩)
def c_internal_bytealg_Cutover (C : Ctx) (p_n : Int) (K : Int → Heap → Prop) (H : Heap) : Prop :=
  Spec Tryd.prog C 81 [.int .i64 p_n] H (fun v H2 => ∃ (r0 : Int), v = .int .i64 r0 ∧ K r0 H2)
theorem c_internal_bytealg_Cutover.mono {C : Ctx} {p_n : Int} {K K2 : Int → Heap → Prop} {H : Heap} (h : c_internal_bytealg_Cutover C p_n K H) (hk : ∀ r0 H2, K r0 H2 → K2 r0 H2) : c_internal_bytealg_Cutover C p_n K2 H :=
  Spec.mono h fun _ H2 ⟨r0, hv, h2⟩ => ⟨r0, hv, hk r0 H2 h2⟩
theorem c_internal_bytealg_Cutover.gh {C : Ctx} {p_n : Int} {K : Int → Heap → Prop} {H : Heap} (h : c_internal_bytealg_Cutover C p_n (fun r0 H2 => ∃ H0, Gh C H2 H0 ∧ K r0 H0) H) : c_internal_bytealg_Cutover C p_n K H :=
  Spec.gh (Spec.mono h fun _ H2 ⟨r0, hv, H0, hg, hk⟩ => ⟨H0, hg, r0, hv, hk⟩)
def c_internal_bytealg_IndexRabinKarp_string (C : Ctx) (p_s : Str) (p_sep : Str) (K : Int → Heap → Prop) (H : Heap) : Prop :=
  Spec Tryd.prog C 82 [sv p_s, sv p_sep] H (fun v H2 => ∃ (r0 : Int), v = .int .i64 r0 ∧ K r0 H2)
theorem c_internal_bytealg_IndexRabinKarp_string.mono {C : Ctx} {p_s : Str} {p_sep : Str} {K K2 : Int → Heap → Prop} {H : Heap} (h : c_internal_bytealg_IndexRabinKarp_string C p_s p_sep K H) (hk : ∀ r0 H2, K r0 H2 → K2 r0 H2) : c_internal_bytealg_IndexRabinKarp_string C p_s p_sep K2 H :=
  Spec.mono h fun _ H2 ⟨r0, hv, h2⟩ => ⟨r0, hv, hk r0 H2 h2⟩
theorem c_internal_bytealg_IndexRabinKarp_string.gh {C : Ctx} {p_s : Str} {p_sep : Str} {K : Int → Heap → Prop} {H : Heap} (h : c_internal_bytealg_IndexRabinKarp_string C p_s p_sep (fun r0 H2 => ∃ H0, Gh C H2 H0 ∧ K r0 H0) H) : c_internal_bytealg_IndexRabinKarp_string C p_s p_sep K H :=
  Spec.gh (Spec.mono h fun _ H2 ⟨r0, hv, H0, hg, hk⟩ => ⟨H0, hg, r0, hv, hk⟩)
def c_ref02_letter (C : Ctx) (p_c : Int) (K : Bool → Heap → Prop) (H : Heap) : Prop :=
  Spec Tryd.prog C 83 [.int .u8 p_c] H (fun v H2 => ∃ (r0 : Bool), v = .bool r0 ∧ K r0 H2)
theorem c_ref02_letter.mono {C : Ctx} {p_c : Int} {K K2 : Bool → Heap → Prop} {H : Heap} (h : c_ref02_letter C p_c K H) (hk : ∀ r0 H2, K r0 H2 → K2 r0 H2) : c_ref02_letter C p_c K2 H :=
  Spec.mono h fun _ H2 ⟨r0, hv, h2⟩ => ⟨r0, hv, hk r0 H2 h2⟩
theorem c_ref02_letter.gh {C : Ctx} {p_c : Int} {K : Bool → Heap → Prop} {H : Heap} (h : c_ref02_letter C p_c (fun r0 H2 => ∃ H0, Gh C H2 H0 ∧ K r0 H0) H) : c_ref02_letter C p_c K H :=
  Spec.gh (Spec.mono h fun _ H2 ⟨r0, hv, H0, hg, hk⟩ => ⟨H0, hg, r0, hv, hk⟩)
def sh_law04_InternPlays (C : Ctx) (p_l : Sl) (K : Bool → Heap → Prop) (H : Heap) : Prop :=
  c_law04_large C p_l (fun r1 H2 =>
 ift r1
 (c_law04_awake C (fun r4 H5 =>
 K r4 H5) H2)
 (c_intern_New C (fun r6 H7 =>
 nw (T_ref04_Table.c (⟨Sl.nil⟩ : T_ref04_Table)) (fun b8 H9 =>
 ift (Option.isNone r6)
 (K false H9)
 (lp (α := Int) 0 H9 (fun x11 J12 H13 =>
 ift (decide ((x11 : Int) < (Sl.len p_l : Int)))
 (ixa p_l x11 fun p15 =>
 ldT H13 T_law04_Op.c (p15.1, p15.2 + (x11 : Int).toNat * 3) fun x20 =>
 c_law04_Op_do C x20 r6 (some (b8, 0)) (fun r22 H23 =>
 ift (!r22)
 (K false H23)
 (J12 (w .i64 (x11 + 1)) H23)) H13)
 (ldL H13 ((b8, 0).1, (b8, 0).2 + 0) fun x25 =>
 mkS ([.int .i64 0]) 8 (Sl.len x25 : Int) (Sl.len x25 : Int) (fun b27 H28 =>
 lp (α := Int) 0 H28 (fun x29 J30 H31 =>
 ift (decide ((x29 : Int) < (Sl.len (Sl.of (some (b27, 0)) ((Sl.len x25 : Int) : Int).toNat ((Sl.len x25 : Int) : Int).toNat) : Int)))
 (ixa (Sl.of (some (b27, 0)) ((Sl.len x25 : Int) : Int).toNat ((Sl.len x25 : Int) : Int).toNat) x29 fun p33 =>
 st (p33.1, p33.2 + (x29 : Int).toNat * 1) (.int .i64 x29) (fun H38 =>
 J30 (w .i64 (x29 + 1)) H38) H31)
 (c_intern_Table_Row C r6 (Sl.of (some (b27, 0)) ((Sl.len x25 : Int) : Int).toNat ((Sl.len x25 : Int) : Int).toNat) (fun r39 r40 H41 =>
 jn (α := Bool) (fun b42 H50 =>
 jn (α := Bool) (fun b51 H57 =>
 K b51 H57)
 (fun J52 => ift b42
 (c_law04_awake C (fun r55 H56 =>
 J52 r55 H56) H50)
 (J52 false H50)))
 (fun J43 => ift ((r40 : Int) == 0)
 (ldL H41 ((b8, 0).1, (b8, 0).2 + 0) fun x46 =>
 c_ref02_SameRow C r39 x46 (fun r48 H49 =>
 J43 r48 H49) H41)
 (J43 false H41))) H31))) H13)))) H7) H2)) H

theorem ad_law04_InternPlays (C : Ctx) (p_l : Sl) (K : Bool → Heap → Prop) (H : Heap) (h : sh_law04_InternPlays C p_l K H) : c_law04_InternPlays C p_l K H := by
  refine Spec.enter Tryd.func3 rfl Tryd.ntmps3 rfl ?_
  refine GC.sub [(0, slv p_l)] ⟨rfl, trivial⟩ ?_
  refine GC.seq ?_
  refine GC.region ?_
  refine GL.val trivial rfl (OV.assign (v := .bool false) rfl) ?_
  refine GL.nil ?_
  refine GC.seq ?_
  refine GC.seq ?_
  refine GC.region ?_
  refine GL.val trivial rfl (OV.move (v := slv p_l) rfl) ?_
  refine GL.call h trivial rfl ok_law04_large (vs := [slv p_l]) rfl ?_
  rintro _ H2 ⟨r1, rfl, h⟩
  refine GL.nil ?_
  refine GC.cond (b := r1) rfl (fun hc3 => ?_) (fun hc3 => ?_)
  · replace h := And.left h hc3
    refine GC.seq ?_
    refine GC.region ?_
    refine GL.call h trivial rfl ok_law04_awake (vs := []) rfl ?_
    rintro _ H5 ⟨r4, rfl, h⟩
    refine GL.val trivial rfl (OV.assign (v := .bool r4) rfl) ?_
    refine GL.nil ?_
    exact GC.ret (fun _ _ hf hs => post_tmp1 rfl rfl hf hs ⟨r4, rfl, h⟩)
  · replace h := And.right h hc3
    refine GC.skip ?_
    refine GC.seq ?_
    refine GC.region ?_
    refine GL.call h trivial rfl ok_intern_New (vs := []) rfl ?_
    rintro _ H7 ⟨r6, rfl, h⟩
    refine GL.val trivial rfl (OV.assign (v := pv r6) rfl) ?_
    refine GL.nil ?_
    refine GC.seq ?_
    refine GC.region ?_
    refine GL.val trivial rfl (OV.build (vs := []) (v := .agg (T_ref04_Table.c (⟨Sl.nil⟩ : T_ref04_Table)).toArray) rfl (fun _ => by kernel_rfl)) ?_
    refine GL.box (v := .agg (T_ref04_Table.c (⟨Sl.nil⟩ : T_ref04_Table)).toArray) (cs := T_ref04_Table.c (⟨Sl.nil⟩ : T_ref04_Table)) h trivial rfl rfl rfl ?_
    intro b8 H9 h
    refine GL.val trivial rfl (OV.assign (v := pv (some (b8, 0))) rfl) ?_
    refine GL.nil ?_
    refine GC.seq ?_
    refine GC.seq ?_
    refine GC.region ?_
    refine GL.val trivial rfl (OV.move (v := pv r6) rfl) ?_
    refine GL.val trivial rfl (OV.eqlNil (p := r6) rfl rfl rfl) ?_
    refine GL.nil ?_
    refine GC.cond (b := Option.isNone r6) rfl (fun hc10 => ?_) (fun hc10 => ?_)
    · replace h := And.left h hc10
      refine GC.seq ?_
      refine GC.region ?_
      refine GL.val trivial rfl (OV.assign (v := .bool false) rfl) ?_
      refine GL.nil ?_
      exact GC.ret (fun _ _ hf hs => post_tmp1 rfl rfl hf hs ⟨false, rfl, h⟩)
    · replace h := And.right h hc10
      refine GC.skip ?_
      refine GC.seq ?_
      refine GC.seq ?_
      refine GC.region ?_
      refine GL.val trivial rfl (OV.assign (v := .int .i64 0) rfl) ?_
      refine GL.nil ?_
      refine GC.block ?_
      refine GC.loop (α := Int) h (fun x11 => [(5, .int .i64 x11), (0, slv p_l), (3, pv r6), (4, pv (some (b8, 0)))]) ⟨rfl, rfl, rfl, rfl, trivial⟩ ?_
      intro x11 H13 J12 h
      refine GC.seq ?_
      refine GC.seq ?_
      refine GC.region ?_
      refine GL.val trivial rfl (OV.move (v := .int .i64 x11) rfl) ?_
      refine GL.val trivial rfl (OV.move (v := slv p_l) rfl) ?_
      refine GL.val trivial rfl (OV.lenSl (s := p_l) rfl rfl) ?_
      refine GL.val trivial rfl (OV.ibin (v := .bool (decide ((x11 : Int) < (Sl.len p_l : Int)))) rfl rfl rfl) ?_
      refine GL.nil ?_
      refine GC.cond (b := decide ((x11 : Int) < (Sl.len p_l : Int))) rfl (fun hc14 => ?_) (fun hc14 => ?_)
      · replace h := And.left h hc14
        refine GC.skip ?_
        refine GC.seq ?_
        refine GC.block ?_
        refine GC.seq ?_
        refine GC.region ?_
        refine GL.val trivial rfl (OV.move (v := slv p_l) rfl) ?_
        refine GL.val trivial rfl (OV.move (v := .int .i64 x11) rfl) ?_
        obtain ⟨p15, ha16, hb17, hc18, hd19, h⟩ := h
        refine GL.val trivial rfl (OV.indexAddr (s := p_l) rfl rfl rfl rfl ha16 hb17 hc18 hd19) ?_
        obtain ⟨x20, hr21, h⟩ := h
        refine GL.val trivial rfl (OV.loadT (p := (p15.1, p15.2 + (x11 : Int).toNat * 3)) (cs := T_law04_Op.c x20) rfl rfl rfl hr21) ?_
        refine GL.val trivial rfl (OV.move (v := pv r6) rfl) ?_
        refine GL.val trivial rfl (OV.move (v := pv (some (b8, 0))) rfl) ?_
        refine GL.call h trivial rfl ok_law04_Op_do (vs := [.agg (T_law04_Op.c x20).toArray, pv r6, pv (some (b8, 0))]) rfl ?_
        rintro _ H23 ⟨r22, rfl, h⟩
        refine GL.val trivial rfl (OV.not rfl) ?_
        refine GL.nil ?_
        refine GC.cond (b := !r22) rfl (fun hc24 => ?_) (fun hc24 => ?_)
        · replace h := And.left h hc24
          refine GC.seq ?_
          refine GC.region ?_
          refine GL.val trivial rfl (OV.assign (v := .bool false) rfl) ?_
          refine GL.nil ?_
          exact GC.ret (fun _ _ hf hs => post_tmp1 rfl rfl hf hs ⟨false, rfl, h⟩)
        · replace h := And.right h hc24
          refine GC.skip_to (fun _ _ h => h) ?_
          refine GC.region ?_
          refine GL.val trivial rfl (OV.move (v := .int .i64 x11) rfl) ?_
          refine GL.val trivial rfl (OV.ibin (v := .int .i64 (w .i64 (x11 + 1))) rfl rfl rfl) ?_
          refine GL.val trivial rfl (OV.assign (v := .int .i64 (w .i64 (x11 + 1))) rfl) ?_
          exact GL.jump (fun _ _ h => h) (w .i64 (x11 + 1)) h ⟨rfl, rfl, rfl, rfl, trivial⟩
      · replace h := And.right h hc14
        refine GC.exit_to (fun _ _ h => h) ?_
        refine GC.seq ?_
        refine GC.region ?_
        refine GL.val trivial rfl (OV.move (v := pv (some (b8, 0))) rfl) ?_
        refine GL.val trivial rfl (OV.nilCheck (q := some (b8, 0)) rfl rfl) ?_
        refine GL.val trivial rfl (OV.fieldAddr (p := (b8, 0)) rfl rfl) ?_
        obtain ⟨x25, hr26, h⟩ := h
        refine GL.val trivial rfl (OV.load (p := ((b8, 0).1, (b8, 0).2 + 0)) rfl rfl hr26) ?_
        refine GL.val trivial rfl (OV.lenSl (s := x25) rfl rfl) ?_
        refine GL.makeSlice (zc := [.int .i64 0]) (bytes := 8) h trivial rfl rfl rfl ⟨⟨_, _, _, rfl, rfl, rfl, rfl, rfl, rfl⟩⟩ ?_
        intro b27 H28 h
        refine GL.val trivial rfl (OV.assign (v := slv (Sl.of (some (b27, 0)) ((Sl.len x25 : Int) : Int).toNat ((Sl.len x25 : Int) : Int).toNat)) rfl) ?_
        refine GL.nil ?_
        refine GC.seq ?_
        refine GC.seq ?_
        refine GC.region ?_
        refine GL.val trivial rfl (OV.assign (v := .int .i64 0) rfl) ?_
        refine GL.nil ?_
        refine GC.block ?_
        refine GC.loop (α := Int) h (fun x29 => [(7, .int .i64 x29), (3, pv r6), (4, pv (some (b8, 0))), (6, slv (Sl.of (some (b27, 0)) ((Sl.len x25 : Int) : Int).toNat ((Sl.len x25 : Int) : Int).toNat))]) ⟨rfl, rfl, rfl, rfl, trivial⟩ ?_
        intro x29 H31 J30 h
        refine GC.seq ?_
        refine GC.seq ?_
        refine GC.region ?_
        refine GL.val trivial rfl (OV.move (v := .int .i64 x29) rfl) ?_
        refine GL.val trivial rfl (OV.move (v := slv (Sl.of (some (b27, 0)) ((Sl.len x25 : Int) : Int).toNat ((Sl.len x25 : Int) : Int).toNat)) rfl) ?_
        refine GL.val trivial rfl (OV.lenSl (s := (Sl.of (some (b27, 0)) ((Sl.len x25 : Int) : Int).toNat ((Sl.len x25 : Int) : Int).toNat)) rfl rfl) ?_
        refine GL.val trivial rfl (OV.ibin (v := .bool (decide ((x29 : Int) < (Sl.len (Sl.of (some (b27, 0)) ((Sl.len x25 : Int) : Int).toNat ((Sl.len x25 : Int) : Int).toNat) : Int)))) rfl rfl rfl) ?_
        refine GL.nil ?_
        refine GC.cond (b := decide ((x29 : Int) < (Sl.len (Sl.of (some (b27, 0)) ((Sl.len x25 : Int) : Int).toNat ((Sl.len x25 : Int) : Int).toNat) : Int))) rfl (fun hc32 => ?_) (fun hc32 => ?_)
        · replace h := And.left h hc32
          refine GC.skip ?_
          refine GC.seq ?_
          refine GC.block ?_
          refine GC.region ?_
          refine GL.val trivial rfl (OV.move (v := slv (Sl.of (some (b27, 0)) ((Sl.len x25 : Int) : Int).toNat ((Sl.len x25 : Int) : Int).toNat)) rfl) ?_
          refine GL.val trivial rfl (OV.move (v := .int .i64 x29) rfl) ?_
          refine GL.val trivial rfl (OV.move (v := .int .i64 x29) rfl) ?_
          obtain ⟨p33, ha34, hb35, hc36, hd37, h⟩ := h
          refine GL.val trivial rfl (OV.indexAddr (s := (Sl.of (some (b27, 0)) ((Sl.len x25 : Int) : Int).toNat ((Sl.len x25 : Int) : Int).toNat)) rfl rfl rfl rfl ha34 hb35 hc36 hd37) ?_
          refine GL.store (p := (p33.1, p33.2 + (x29 : Int).toNat * 1)) (v := .int .i64 x29) h trivial rfl rfl rfl rfl ?_
          intro H38 h
          refine GL.nil_to (fun _ _ h => h) ?_
          refine GC.region ?_
          refine GL.val trivial rfl (OV.move (v := .int .i64 x29) rfl) ?_
          refine GL.val trivial rfl (OV.ibin (v := .int .i64 (w .i64 (x29 + 1))) rfl rfl rfl) ?_
          refine GL.val trivial rfl (OV.assign (v := .int .i64 (w .i64 (x29 + 1))) rfl) ?_
          exact GL.jump (fun _ _ h => h) (w .i64 (x29 + 1)) h ⟨rfl, rfl, rfl, rfl, trivial⟩
        · replace h := And.right h hc32
          refine GC.exit_to (fun _ _ h => h) ?_
          refine GC.seq ?_
          refine GC.region ?_
          refine GL.val trivial rfl (OV.move (v := pv r6) rfl) ?_
          refine GL.val trivial rfl (OV.move (v := slv (Sl.of (some (b27, 0)) ((Sl.len x25 : Int) : Int).toNat ((Sl.len x25 : Int) : Int).toNat)) rfl) ?_
          refine GL.call h trivial rfl ok_intern_Table_Row (vs := [pv r6, slv (Sl.of (some (b27, 0)) ((Sl.len x25 : Int) : Int).toNat ((Sl.len x25 : Int) : Int).toNat)]) rfl ?_
          rintro _ H41 ⟨r39, r40, rfl, h⟩
          refine GL.val trivial rfl (OV.move (v := .tuple #[slv r39, .int .i64 r40]) rfl) ?_
          refine GL.val trivial rfl (OV.extract (v := slv r39) rfl rfl) ?_
          refine GL.val trivial rfl (OV.extract (v := .int .i64 r40) rfl rfl) ?_
          refine GL.val trivial rfl (OV.assign (v := slv r39) rfl) ?_
          refine GL.val trivial rfl (OV.assign (v := .int .i64 r40) rfl) ?_
          refine GL.nil ?_
          refine GC.seq ?_
          refine GC.region ?_
          refine GL.val trivial rfl (OV.move (v := .int .i64 r40) rfl) ?_
          refine GL.val trivial rfl (OV.ibin (v := .bool ((r40 : Int) == 0)) rfl rfl rfl) ?_
          refine GL.val trivial rfl (OV.move (v := .bool ((r40 : Int) == 0)) rfl) ?_
          obtain ⟨J43, h, hR44⟩ := h
          refine GL.cut (α := Bool) 7 J43 (fun b42 => [(63, .bool b42)]) ?_ ?_
          · rcases Bool.eq_false_or_eq_true ((r40 : Int) == 0) with hc45 | hc45
            · skip
              replace h := And.left h hc45
              refine GL.val ⟨_, _, rfl, rfl, hc45⟩ rfl (OV.move (v := slv r39) rfl) ?_
              refine GL.val ⟨_, _, rfl, rfl, hc45⟩ rfl (OV.move (v := pv (some (b8, 0))) rfl) ?_
              refine GL.val ⟨_, _, rfl, rfl, hc45⟩ rfl (OV.nilCheck (q := some (b8, 0)) rfl rfl) ?_
              refine GL.val ⟨_, _, rfl, rfl, hc45⟩ rfl (OV.fieldAddr (p := (b8, 0)) rfl rfl) ?_
              obtain ⟨x46, hr47, h⟩ := h
              refine GL.val ⟨_, _, rfl, rfl, hc45⟩ rfl (OV.load (p := ((b8, 0).1, (b8, 0).2 + 0)) rfl rfl hr47) ?_
              refine GL.call h ⟨_, _, rfl, rfl, hc45⟩ rfl ok_ref02_SameRow (vs := [slv r39, slv x46]) rfl ?_
              rintro _ H49 ⟨r48, rfl, h⟩
              refine GL.val trivial rfl (OV.pickT (b := (r40 : Int) == 0) (v := .bool r48) rfl hc45 rfl) ?_
              exact GL.jump (fun _ _ h => h) r48 h ⟨rfl, trivial⟩
            · skip
              replace h := And.right h hc45
              refine GL.skip ⟨_, rfl, .inl ⟨_, rfl, hc45⟩⟩ rfl ?_
              refine GL.skip ⟨_, rfl, .inl ⟨_, rfl, hc45⟩⟩ rfl ?_
              refine GL.skip ⟨_, rfl, .inl ⟨_, rfl, hc45⟩⟩ rfl ?_
              refine GL.skip ⟨_, rfl, .inl ⟨_, rfl, hc45⟩⟩ rfl ?_
              refine GL.skip ⟨_, rfl, .inl ⟨_, rfl, hc45⟩⟩ rfl ?_
              refine GL.skip ⟨_, rfl, .inl ⟨_, rfl, hc45⟩⟩ rfl ?_
              refine GL.val trivial rfl (OV.pickF (b := (r40 : Int) == 0) (v := .bool false) rfl hc45 rfl) ?_
              exact GL.jump (fun _ _ h => h) false h ⟨rfl, trivial⟩
          intro b42 H50 h
          replace h := hR44 b42 H50 h
          refine GL.val trivial rfl (OV.move (v := .bool b42) rfl) ?_
          obtain ⟨J52, h, hR53⟩ := h
          refine GL.cut (α := Bool) 2 J52 (fun b51 => [(66, .bool b51)]) ?_ ?_
          · rcases Bool.eq_false_or_eq_true b42 with hc54 | hc54
            · skip
              replace h := And.left h hc54
              refine GL.call h ⟨_, _, rfl, rfl, hc54⟩ rfl ok_law04_awake (vs := []) rfl ?_
              rintro _ H56 ⟨r55, rfl, h⟩
              refine GL.val trivial rfl (OV.pickT (b := b42) (v := .bool r55) rfl hc54 rfl) ?_
              exact GL.jump (fun _ _ h => h) r55 h ⟨rfl, trivial⟩
            · skip
              replace h := And.right h hc54
              refine GL.skip ⟨_, rfl, .inl ⟨_, rfl, hc54⟩⟩ rfl ?_
              refine GL.val trivial rfl (OV.pickF (b := b42) (v := .bool false) rfl hc54 rfl) ?_
              exact GL.jump (fun _ _ h => h) false h ⟨rfl, trivial⟩
          intro b51 H57 h
          replace h := hR53 b51 H57 h
          refine GL.val trivial rfl (OV.assign (v := .bool b51) rfl) ?_
          refine GL.nil ?_
          exact GC.ret (fun _ _ hf hs => post_tmp1 rfl rfl hf hs ⟨b51, rfl, h⟩)

def sh_law04_large (C : Ctx) (p_l : Sl) (K : Bool → Heap → Prop) (H : Heap) : Prop :=
  lp (α := Int × Int) ((Sl.len p_l : Int), 0) H (fun x1 J2 H3 =>
 ift ((decide ((x1.2 : Int) < (Sl.len p_l : Int))) && (decide ((x1.1 : Int) < 1500)))
 (ixa p_l x1.2 fun p6 =>
 ldL H3 ((p6.1, p6.2 + (x1.2 : Int).toNat * 3).1, (p6.1, p6.2 + (x1.2 : Int).toNat * 3).2 + 2) fun x11 =>
 lp (α := Int × Int) ((w .i64 (x1.1 + (Sl.len x11 : Int))), 0) H3 (fun x13 J14 H15 =>
 ixa p_l x1.2 fun p16 =>
 ldL H15 ((p16.1, p16.2 + (x1.2 : Int).toNat * 3).1, (p16.1, p16.2 + (x1.2 : Int).toNat * 3).2 + 1) fun x21 =>
 ift ((decide ((x13.2 : Int) < (Sl.len x21 : Int))) && (decide ((x13.1 : Int) < 1500)))
 (ixa p_l x1.2 fun p25 =>
 ldL H15 ((p25.1, p25.2 + (x1.2 : Int).toNat * 3).1, (p25.1, p25.2 + (x1.2 : Int).toNat * 3).2 + 1) fun x30 =>
 ixa x30 x13.2 fun p32 =>
 ldT H15 T_api_Value.c (p32.1, p32.2 + (x13.2 : Int).toNat * 4) fun x37 =>
 c_law04_weight C x37 1500 (fun r39 H40 =>
 J14 ((w .i64 (x13.1 + r39)), (w .i64 (x13.2 + 1))) H40) H15)
 (J2 (x13.1, (w .i64 (x1.2 + 1))) H15)))
 (K (decide ((x1.1 : Int) ≥ 1500)) H3))

theorem ad_law04_large (C : Ctx) (p_l : Sl) (K : Bool → Heap → Prop) (H : Heap) (h : sh_law04_large C p_l K H) : c_law04_large C p_l K H := by
  refine Spec.enter Tryd.func5 rfl Tryd.ntmps5 rfl ?_
  refine GC.sub [(0, slv p_l)] ⟨rfl, trivial⟩ ?_
  refine GC.seq ?_
  refine GC.region ?_
  refine GL.val trivial rfl (OV.assign (v := .bool false) rfl) ?_
  refine GL.nil ?_
  refine GC.seq ?_
  refine GC.region ?_
  refine GL.val trivial rfl (OV.move (v := slv p_l) rfl) ?_
  refine GL.val trivial rfl (OV.lenSl (s := p_l) rfl rfl) ?_
  refine GL.val trivial rfl (OV.assign (v := .int .i64 (Sl.len p_l : Int)) rfl) ?_
  refine GL.nil ?_
  refine GC.seq ?_
  refine GC.seq ?_
  refine GC.region ?_
  refine GL.val trivial rfl (OV.assign (v := .int .i64 0) rfl) ?_
  refine GL.nil ?_
  refine GC.block ?_
  refine GC.loop (α := Int × Int) h (fun x1 => [(3, .int .i64 x1.1), (4, .int .i64 x1.2), (0, slv p_l)]) ⟨rfl, rfl, rfl, trivial⟩ ?_
  intro x1 H3 J2 h
  refine GC.seq ?_
  refine GC.seq ?_
  refine GC.region ?_
  refine GL.val trivial rfl (OV.move (v := .int .i64 x1.2) rfl) ?_
  refine GL.val trivial rfl (OV.move (v := slv p_l) rfl) ?_
  refine GL.val trivial rfl (OV.lenSl (s := p_l) rfl rfl) ?_
  refine GL.val trivial rfl (OV.ibin (v := .bool (decide ((x1.2 : Int) < (Sl.len p_l : Int)))) rfl rfl rfl) ?_
  refine GL.val trivial rfl (OV.move (v := .bool (decide ((x1.2 : Int) < (Sl.len p_l : Int)))) rfl) ?_
  refine GL.cut0 3 [(15, .bool ((decide ((x1.2 : Int) < (Sl.len p_l : Int))) && (decide ((x1.1 : Int) < 1500)))), (0, slv p_l), (3, .int .i64 x1.1), (4, .int .i64 x1.2)] ?_ ?_
  · rcases Bool.eq_false_or_eq_true (decide ((x1.2 : Int) < (Sl.len p_l : Int))) with hc4 | hc4
    · skip
      refine GL.val ⟨_, _, rfl, rfl, hc4⟩ rfl (OV.move (v := .int .i64 x1.1) rfl) ?_
      refine GL.val ⟨_, _, rfl, rfl, hc4⟩ rfl (OV.ibin (v := .bool (decide ((x1.1 : Int) < 1500))) rfl rfl rfl) ?_
      refine GL.val trivial rfl (OV.pickT (b := decide ((x1.2 : Int) < (Sl.len p_l : Int))) (v := .bool (decide ((x1.1 : Int) < 1500))) rfl hc4 rfl) ?_
      exact GL.jump0 (fun _ _ h => h) () rfl ⟨(by rw [hc4]; rfl), rfl, rfl, rfl, trivial⟩
    · skip
      refine GL.skip ⟨_, rfl, .inl ⟨_, rfl, hc4⟩⟩ rfl ?_
      refine GL.skip ⟨_, rfl, .inl ⟨_, rfl, hc4⟩⟩ rfl ?_
      refine GL.val trivial rfl (OV.pickF (b := decide ((x1.2 : Int) < (Sl.len p_l : Int))) (v := .bool false) rfl hc4 rfl) ?_
      exact GL.jump0 (fun _ _ h => h) () rfl ⟨(by rw [hc4]; rfl), rfl, rfl, rfl, trivial⟩
  refine GL.nil ?_
  refine GC.cond (b := (decide ((x1.2 : Int) < (Sl.len p_l : Int))) && (decide ((x1.1 : Int) < 1500))) rfl (fun hc5 => ?_) (fun hc5 => ?_)
  · replace h := And.left h hc5
    refine GC.skip ?_
    refine GC.seq ?_
    refine GC.block ?_
    refine GC.seq ?_
    refine GC.region ?_
    refine GL.val trivial rfl (OV.move (v := .int .i64 x1.1) rfl) ?_
    refine GL.val trivial rfl (OV.move (v := slv p_l) rfl) ?_
    refine GL.val trivial rfl (OV.move (v := .int .i64 x1.2) rfl) ?_
    obtain ⟨p6, ha7, hb8, hc9, hd10, h⟩ := h
    refine GL.val trivial rfl (OV.indexAddr (s := p_l) rfl rfl rfl rfl ha7 hb8 hc9 hd10) ?_
    refine GL.val trivial rfl (OV.fieldAddr (p := (p6.1, p6.2 + (x1.2 : Int).toNat * 3)) rfl rfl) ?_
    obtain ⟨x11, hr12, h⟩ := h
    refine GL.val trivial rfl (OV.load (p := ((p6.1, p6.2 + (x1.2 : Int).toNat * 3).1, (p6.1, p6.2 + (x1.2 : Int).toNat * 3).2 + 2)) rfl rfl hr12) ?_
    refine GL.val trivial rfl (OV.lenSl (s := x11) rfl rfl) ?_
    refine GL.val trivial rfl (OV.ibin (v := .int .i64 (w .i64 (x1.1 + (Sl.len x11 : Int)))) rfl rfl rfl) ?_
    refine GL.val trivial rfl (OV.assign (v := .int .i64 (w .i64 (x1.1 + (Sl.len x11 : Int)))) rfl) ?_
    refine GL.nil ?_
    refine GC.seq ?_
    refine GC.region ?_
    refine GL.val trivial rfl (OV.assign (v := .int .i64 0) rfl) ?_
    refine GL.nil ?_
    refine GC.block ?_
    refine GC.loop (α := Int × Int) h (fun x13 => [(3, .int .i64 x13.1), (5, .int .i64 x13.2), (0, slv p_l), (4, .int .i64 x1.2)]) ⟨rfl, rfl, rfl, rfl, trivial⟩ ?_
    intro x13 H15 J14 h
    refine GC.seq ?_
    refine GC.seq ?_
    refine GC.region ?_
    refine GL.val trivial rfl (OV.move (v := .int .i64 x13.2) rfl) ?_
    refine GL.val trivial rfl (OV.move (v := slv p_l) rfl) ?_
    refine GL.val trivial rfl (OV.move (v := .int .i64 x1.2) rfl) ?_
    obtain ⟨p16, ha17, hb18, hc19, hd20, h⟩ := h
    refine GL.val trivial rfl (OV.indexAddr (s := p_l) rfl rfl rfl rfl ha17 hb18 hc19 hd20) ?_
    refine GL.val trivial rfl (OV.fieldAddr (p := (p16.1, p16.2 + (x1.2 : Int).toNat * 3)) rfl rfl) ?_
    obtain ⟨x21, hr22, h⟩ := h
    refine GL.val trivial rfl (OV.load (p := ((p16.1, p16.2 + (x1.2 : Int).toNat * 3).1, (p16.1, p16.2 + (x1.2 : Int).toNat * 3).2 + 1)) rfl rfl hr22) ?_
    refine GL.val trivial rfl (OV.lenSl (s := x21) rfl rfl) ?_
    refine GL.val trivial rfl (OV.ibin (v := .bool (decide ((x13.2 : Int) < (Sl.len x21 : Int)))) rfl rfl rfl) ?_
    refine GL.val trivial rfl (OV.move (v := .bool (decide ((x13.2 : Int) < (Sl.len x21 : Int)))) rfl) ?_
    refine GL.cut0 3 [(37, .bool ((decide ((x13.2 : Int) < (Sl.len x21 : Int))) && (decide ((x13.1 : Int) < 1500)))), (0, slv p_l), (3, .int .i64 x13.1), (4, .int .i64 x1.2), (5, .int .i64 x13.2)] ?_ ?_
    · rcases Bool.eq_false_or_eq_true (decide ((x13.2 : Int) < (Sl.len x21 : Int))) with hc23 | hc23
      · skip
        refine GL.val ⟨_, _, rfl, rfl, hc23⟩ rfl (OV.move (v := .int .i64 x13.1) rfl) ?_
        refine GL.val ⟨_, _, rfl, rfl, hc23⟩ rfl (OV.ibin (v := .bool (decide ((x13.1 : Int) < 1500))) rfl rfl rfl) ?_
        refine GL.val trivial rfl (OV.pickT (b := decide ((x13.2 : Int) < (Sl.len x21 : Int))) (v := .bool (decide ((x13.1 : Int) < 1500))) rfl hc23 rfl) ?_
        exact GL.jump0 (fun _ _ h => h) () rfl ⟨(by rw [hc23]; rfl), rfl, rfl, rfl, rfl, trivial⟩
      · skip
        refine GL.skip ⟨_, rfl, .inl ⟨_, rfl, hc23⟩⟩ rfl ?_
        refine GL.skip ⟨_, rfl, .inl ⟨_, rfl, hc23⟩⟩ rfl ?_
        refine GL.val trivial rfl (OV.pickF (b := decide ((x13.2 : Int) < (Sl.len x21 : Int))) (v := .bool false) rfl hc23 rfl) ?_
        exact GL.jump0 (fun _ _ h => h) () rfl ⟨(by rw [hc23]; rfl), rfl, rfl, rfl, rfl, trivial⟩
    refine GL.nil ?_
    refine GC.cond (b := (decide ((x13.2 : Int) < (Sl.len x21 : Int))) && (decide ((x13.1 : Int) < 1500))) rfl (fun hc24 => ?_) (fun hc24 => ?_)
    · replace h := And.left h hc24
      refine GC.skip ?_
      refine GC.seq ?_
      refine GC.block ?_
      refine GC.region ?_
      refine GL.val trivial rfl (OV.move (v := .int .i64 x13.1) rfl) ?_
      refine GL.val trivial rfl (OV.move (v := slv p_l) rfl) ?_
      refine GL.val trivial rfl (OV.move (v := .int .i64 x1.2) rfl) ?_
      obtain ⟨p25, ha26, hb27, hc28, hd29, h⟩ := h
      refine GL.val trivial rfl (OV.indexAddr (s := p_l) rfl rfl rfl rfl ha26 hb27 hc28 hd29) ?_
      refine GL.val trivial rfl (OV.fieldAddr (p := (p25.1, p25.2 + (x1.2 : Int).toNat * 3)) rfl rfl) ?_
      obtain ⟨x30, hr31, h⟩ := h
      refine GL.val trivial rfl (OV.load (p := ((p25.1, p25.2 + (x1.2 : Int).toNat * 3).1, (p25.1, p25.2 + (x1.2 : Int).toNat * 3).2 + 1)) rfl rfl hr31) ?_
      refine GL.val trivial rfl (OV.move (v := .int .i64 x13.2) rfl) ?_
      obtain ⟨p32, ha33, hb34, hc35, hd36, h⟩ := h
      refine GL.val trivial rfl (OV.indexAddr (s := x30) rfl rfl rfl rfl ha33 hb34 hc35 hd36) ?_
      obtain ⟨x37, hr38, h⟩ := h
      refine GL.val trivial rfl (OV.loadT (p := (p32.1, p32.2 + (x13.2 : Int).toNat * 4)) (cs := T_api_Value.c x37) rfl rfl rfl hr38) ?_
      refine GL.call h trivial rfl ok_law04_weight (vs := [.agg (T_api_Value.c x37).toArray, .int .i64 1500]) rfl ?_
      rintro _ H40 ⟨r39, rfl, h⟩
      refine GL.val trivial rfl (OV.ibin (v := .int .i64 (w .i64 (x13.1 + r39))) rfl rfl rfl) ?_
      refine GL.val trivial rfl (OV.assign (v := .int .i64 (w .i64 (x13.1 + r39))) rfl) ?_
      refine GL.nil_to (fun _ _ h => h) ?_
      refine GC.region ?_
      refine GL.val trivial rfl (OV.move (v := .int .i64 x13.2) rfl) ?_
      refine GL.val trivial rfl (OV.ibin (v := .int .i64 (w .i64 (x13.2 + 1))) rfl rfl rfl) ?_
      refine GL.val trivial rfl (OV.assign (v := .int .i64 (w .i64 (x13.2 + 1))) rfl) ?_
      exact GL.jump (fun _ _ h => h) ((w .i64 (x13.1 + r39)), (w .i64 (x13.2 + 1))) h ⟨rfl, rfl, rfl, rfl, trivial⟩
    · replace h := And.right h hc24
      refine GC.exit_to (fun _ _ h => h) ?_
      refine GC.region ?_
      refine GL.val trivial rfl (OV.move (v := .int .i64 x1.2) rfl) ?_
      refine GL.val trivial rfl (OV.ibin (v := .int .i64 (w .i64 (x1.2 + 1))) rfl rfl rfl) ?_
      refine GL.val trivial rfl (OV.assign (v := .int .i64 (w .i64 (x1.2 + 1))) rfl) ?_
      exact GL.jump (fun _ _ h => h) (x13.1, (w .i64 (x1.2 + 1))) h ⟨rfl, rfl, rfl, trivial⟩
  · replace h := And.right h hc5
    refine GC.exit_to (fun _ _ h => h) ?_
    refine GC.seq ?_
    refine GC.region ?_
    refine GL.val trivial rfl (OV.move (v := .int .i64 x1.1) rfl) ?_
    refine GL.val trivial rfl (OV.ibin (v := .bool (decide ((x1.1 : Int) ≥ 1500))) rfl rfl rfl) ?_
    refine GL.val trivial rfl (OV.assign (v := .bool (decide ((x1.1 : Int) ≥ 1500))) rfl) ?_
    refine GL.nil ?_
    exact GC.ret (fun _ _ hf hs => post_tmp1 rfl rfl hf hs ⟨(decide ((x1.1 : Int) ≥ 1500)), rfl, h⟩)

def sh_law04_awake (C : Ctx) (K : Bool → Heap → Prop) (H : Heap) : Prop :=
  nw (T_api_Value.c T_api_Value.zero) (fun b1 H2 =>
 nw (T_api_Value.c T_api_Value.zero) (fun b3 H4 =>
 nw (T_api_Value.c T_api_Value.zero) (fun b5 H6 =>
 stT (b1, 0) (T_api_Value.c (⟨2, 5, [], Sl.nil⟩ : T_api_Value)) (fun H7 =>
 stT (b3, 0) (T_api_Value.c (⟨4, 0, [97], Sl.nil⟩ : T_api_Value)) (fun H8 =>
 stT (b5, 0) (T_api_Value.c (⟨1, 1, [], Sl.nil⟩ : T_api_Value)) (fun H9 =>
 c_intern_New C (fun r10 H11 =>
 ldT H11 T_api_Value.c (b1, 0) fun x12 =>
 c_intern_Table_Put C r10 x12 (fun r14 r15 H16 =>
 ldT H16 T_api_Value.c (b3, 0) fun x17 =>
 c_intern_Table_Put C r10 x17 (fun r19 r20 H21 =>
 ldT H21 T_api_Value.c (b1, 0) fun x22 =>
 c_intern_Table_Put C r10 x22 (fun r24 r25 H26 =>
 ldT H26 T_api_Value.c (b3, 0) fun x27 =>
 ldT H26 T_api_Value.c (b5, 0) fun x29 =>
 ldT H26 T_api_Value.c (b1, 0) fun x31 =>
 nw ((T_api_Value.c x27) ++ (T_api_Value.c x29) ++ (T_api_Value.c x31) ++ []) (fun b33 H34 =>
 c_intern_Table_PutRow C r10 (Sl.of (some (b33, 0)) 3 3) (fun r35 r36 H37 =>
 c_intern_Table_At C r10 2 (fun r38 r39 H40 =>
 nw (T_api_Value.c T_api_Value.zero) (fun b41 H42 =>
 stT (b41, 0) (T_api_Value.c r38) (fun H43 =>
 c_intern_Table_At C r10 3 (fun r44 r45 H46 =>
 nw (T_api_Value.c T_api_Value.zero) (fun b47 H48 =>
 stT (b47, 0) (T_api_Value.c r44) (fun H49 =>
 jn (α := Bool) (fun b58 H66 =>
 jn (α := Bool) (fun b67 H77 =>
 jn (α := Bool) (fun b78 H84 =>
 K b78 H84)
 (fun J79 => ift b67
 (c_intern_Table_Len C r10 (fun r82 H83 =>
 J79 ((r82 : Int) == 3) H83) H77)
 (J79 false H77)))
 (fun J68 => ift b58
 (ldT H66 T_api_Value.c (b41, 0) fun x71 =>
 ldT H66 T_api_Value.c (b5, 0) fun x73 =>
 c_ref02_Same C x71 x73 (fun r75 H76 =>
 J68 r75 H76) H66)
 (J68 false H66)))
 (fun J59 => ift ((((((((((r15 : Int) == 0) && ((r20 : Int) == 0)) && ((r25 : Int) == 0)) && ((r36 : Int) == 0)) && ((r39 : Int) == 0)) && ((r45 : Int) == 5)) && ((r14 : Int) == 0)) && ((r19 : Int) == 1)) && ((r24 : Int) == 0))
 (nw ([.int .i64 1, .int .i64 2, .int .i64 0]) (fun b62 H63 =>
 c_ref04_Ints C r35 (Sl.of (some (b62, 0)) 3 3) (fun r64 H65 =>
 J59 r64 H65) H63) H49)
 (J59 false H49))) H48) H46) H43) H42) H40) H37) H34) H26) H21) H16) H11) H9) H8) H7) H6) H4) H2) H

theorem ad_law04_awake (C : Ctx) (K : Bool → Heap → Prop) (H : Heap) (h : sh_law04_awake C  K H) : c_law04_awake C  K H := by
  refine Spec.enter Tryd.func6 rfl Tryd.ntmps6 rfl ?_
  refine GC.sub [] trivial ?_
  refine GC.seq ?_
  refine GC.region ?_
  refine GL.val trivial rfl (OV.assign (v := .bool false) rfl) ?_
  refine GL.nil ?_
  refine GC.seq ?_
  refine GC.region ?_
  refine GL.val trivial rfl (OV.build (vs := [(0, .int .u8 2), (1, .int .i64 5)]) (v := .agg (T_api_Value.c (⟨2, 5, [], Sl.nil⟩ : T_api_Value)).toArray) rfl (fun _ => by kernel_rfl)) ?_
  refine GL.val trivial rfl (OV.build (vs := [(0, .int .u8 4), (2, sv [97])]) (v := .agg (T_api_Value.c (⟨4, 0, [97], Sl.nil⟩ : T_api_Value)).toArray) rfl (fun _ => by kernel_rfl)) ?_
  refine GL.val trivial rfl (OV.build (vs := [(0, .int .u8 1), (1, .int .i64 1)]) (v := .agg (T_api_Value.c (⟨1, 1, [], Sl.nil⟩ : T_api_Value)).toArray) rfl (fun _ => by kernel_rfl)) ?_
  refine GL.alloc (cs := T_api_Value.c T_api_Value.zero) h trivial rfl rfl rfl ?_
  intro b1 H2 h
  refine GL.alloc (cs := T_api_Value.c T_api_Value.zero) h trivial rfl rfl rfl ?_
  intro b3 H4 h
  refine GL.alloc (cs := T_api_Value.c T_api_Value.zero) h trivial rfl rfl rfl ?_
  intro b5 H6 h
  refine GL.storeT (p := (b1, 0)) (vs := T_api_Value.c (⟨2, 5, [], Sl.nil⟩ : T_api_Value)) h trivial rfl rfl rfl rfl ?_
  intro H7 h
  refine GL.storeT (p := (b3, 0)) (vs := T_api_Value.c (⟨4, 0, [97], Sl.nil⟩ : T_api_Value)) h trivial rfl rfl rfl rfl ?_
  intro H8 h
  refine GL.storeT (p := (b5, 0)) (vs := T_api_Value.c (⟨1, 1, [], Sl.nil⟩ : T_api_Value)) h trivial rfl rfl rfl rfl ?_
  intro H9 h
  refine GL.nil ?_
  refine GC.seq ?_
  refine GC.region ?_
  refine GL.call h trivial rfl ok_intern_New (vs := []) rfl ?_
  rintro _ H11 ⟨r10, rfl, h⟩
  refine GL.val trivial rfl (OV.assign (v := pv r10) rfl) ?_
  refine GL.nil ?_
  refine GC.seq ?_
  refine GC.region ?_
  refine GL.val trivial rfl (OV.move (v := pv r10) rfl) ?_
  obtain ⟨x12, hr13, h⟩ := h
  refine GL.val trivial rfl (OV.loadT (p := (b1, 0)) (cs := T_api_Value.c x12) rfl rfl rfl hr13) ?_
  refine GL.call h trivial rfl ok_intern_Table_Put (vs := [pv r10, .agg (T_api_Value.c x12).toArray]) rfl ?_
  rintro _ H16 ⟨r14, r15, rfl, h⟩
  refine GL.val trivial rfl (OV.move (v := .tuple #[.int .i64 r14, .int .i64 r15]) rfl) ?_
  refine GL.val trivial rfl (OV.extract (v := .int .i64 r14) rfl rfl) ?_
  refine GL.val trivial rfl (OV.extract (v := .int .i64 r15) rfl rfl) ?_
  refine GL.val trivial rfl (OV.assign (v := .int .i64 r14) rfl) ?_
  refine GL.val trivial rfl (OV.assign (v := .int .i64 r15) rfl) ?_
  refine GL.nil ?_
  refine GC.seq ?_
  refine GC.region ?_
  refine GL.val trivial rfl (OV.move (v := pv r10) rfl) ?_
  obtain ⟨x17, hr18, h⟩ := h
  refine GL.val trivial rfl (OV.loadT (p := (b3, 0)) (cs := T_api_Value.c x17) rfl rfl rfl hr18) ?_
  refine GL.call h trivial rfl ok_intern_Table_Put (vs := [pv r10, .agg (T_api_Value.c x17).toArray]) rfl ?_
  rintro _ H21 ⟨r19, r20, rfl, h⟩
  refine GL.val trivial rfl (OV.move (v := .tuple #[.int .i64 r19, .int .i64 r20]) rfl) ?_
  refine GL.val trivial rfl (OV.extract (v := .int .i64 r19) rfl rfl) ?_
  refine GL.val trivial rfl (OV.extract (v := .int .i64 r20) rfl rfl) ?_
  refine GL.val trivial rfl (OV.assign (v := .int .i64 r19) rfl) ?_
  refine GL.val trivial rfl (OV.assign (v := .int .i64 r20) rfl) ?_
  refine GL.nil ?_
  refine GC.seq ?_
  refine GC.region ?_
  refine GL.val trivial rfl (OV.move (v := pv r10) rfl) ?_
  obtain ⟨x22, hr23, h⟩ := h
  refine GL.val trivial rfl (OV.loadT (p := (b1, 0)) (cs := T_api_Value.c x22) rfl rfl rfl hr23) ?_
  refine GL.call h trivial rfl ok_intern_Table_Put (vs := [pv r10, .agg (T_api_Value.c x22).toArray]) rfl ?_
  rintro _ H26 ⟨r24, r25, rfl, h⟩
  refine GL.val trivial rfl (OV.move (v := .tuple #[.int .i64 r24, .int .i64 r25]) rfl) ?_
  refine GL.val trivial rfl (OV.extract (v := .int .i64 r24) rfl rfl) ?_
  refine GL.val trivial rfl (OV.extract (v := .int .i64 r25) rfl rfl) ?_
  refine GL.val trivial rfl (OV.assign (v := .int .i64 r24) rfl) ?_
  refine GL.val trivial rfl (OV.assign (v := .int .i64 r25) rfl) ?_
  refine GL.nil ?_
  refine GC.seq ?_
  refine GC.region ?_
  refine GL.val trivial rfl (OV.move (v := pv r10) rfl) ?_
  obtain ⟨x27, hr28, h⟩ := h
  refine GL.val trivial rfl (OV.loadT (p := (b3, 0)) (cs := T_api_Value.c x27) rfl rfl rfl hr28) ?_
  obtain ⟨x29, hr30, h⟩ := h
  refine GL.val trivial rfl (OV.loadT (p := (b5, 0)) (cs := T_api_Value.c x29) rfl rfl rfl hr30) ?_
  obtain ⟨x31, hr32, h⟩ := h
  refine GL.val trivial rfl (OV.loadT (p := (b1, 0)) (cs := T_api_Value.c x31) rfl rfl rfl hr32) ?_
  refine GL.buildSlice (cs := (T_api_Value.c x27) ++ (T_api_Value.c x29) ++ (T_api_Value.c x31) ++ []) h trivial rfl (vs := [(0, .agg (T_api_Value.c x27).toArray), (1, .agg (T_api_Value.c x29).toArray), (2, .agg (T_api_Value.c x31).toArray)]) rfl ⟨41, fun _ => by kernel_rfl⟩ ?_
  intro b33 H34 h
  refine GL.call h trivial rfl ok_intern_Table_PutRow (vs := [pv r10, slv (Sl.of (some (b33, 0)) 3 3)]) rfl ?_
  rintro _ H37 ⟨r35, r36, rfl, h⟩
  refine GL.val trivial rfl (OV.move (v := .tuple #[slv r35, .int .i64 r36]) rfl) ?_
  refine GL.val trivial rfl (OV.extract (v := slv r35) rfl rfl) ?_
  refine GL.val trivial rfl (OV.extract (v := .int .i64 r36) rfl rfl) ?_
  refine GL.val trivial rfl (OV.assign (v := slv r35) rfl) ?_
  refine GL.val trivial rfl (OV.assign (v := .int .i64 r36) rfl) ?_
  refine GL.nil ?_
  refine GC.seq ?_
  refine GC.region ?_
  refine GL.val trivial rfl (OV.move (v := pv r10) rfl) ?_
  refine GL.call h trivial rfl ok_intern_Table_At (vs := [pv r10, .int .i64 2]) rfl ?_
  rintro _ H40 ⟨r38, r39, rfl, h⟩
  refine GL.val trivial rfl (OV.move (v := .tuple #[.agg (T_api_Value.c r38).toArray, .int .i64 r39]) rfl) ?_
  refine GL.val trivial rfl (OV.extract (v := .agg (T_api_Value.c r38).toArray) rfl rfl) ?_
  refine GL.val trivial rfl (OV.extract (v := .int .i64 r39) rfl rfl) ?_
  refine GL.alloc (cs := T_api_Value.c T_api_Value.zero) h trivial rfl rfl rfl ?_
  intro b41 H42 h
  refine GL.storeT (p := (b41, 0)) (vs := T_api_Value.c r38) h trivial rfl rfl rfl rfl ?_
  intro H43 h
  refine GL.val trivial rfl (OV.assign (v := .int .i64 r39) rfl) ?_
  refine GL.nil ?_
  refine GC.seq ?_
  refine GC.region ?_
  refine GL.val trivial rfl (OV.move (v := pv r10) rfl) ?_
  refine GL.call h trivial rfl ok_intern_Table_At (vs := [pv r10, .int .i64 3]) rfl ?_
  rintro _ H46 ⟨r44, r45, rfl, h⟩
  refine GL.val trivial rfl (OV.move (v := .tuple #[.agg (T_api_Value.c r44).toArray, .int .i64 r45]) rfl) ?_
  refine GL.val trivial rfl (OV.extract (v := .agg (T_api_Value.c r44).toArray) rfl rfl) ?_
  refine GL.val trivial rfl (OV.extract (v := .int .i64 r45) rfl rfl) ?_
  refine GL.alloc (cs := T_api_Value.c T_api_Value.zero) h trivial rfl rfl rfl ?_
  intro b47 H48 h
  refine GL.storeT (p := (b47, 0)) (vs := T_api_Value.c r44) h trivial rfl rfl rfl rfl ?_
  intro H49 h
  refine GL.val trivial rfl (OV.assign (v := .int .i64 r45) rfl) ?_
  refine GL.nil ?_
  refine GC.seq ?_
  refine GC.region ?_
  refine GL.val trivial rfl (OV.move (v := .int .i64 r15) rfl) ?_
  refine GL.val trivial rfl (OV.ibin (v := .bool ((r15 : Int) == 0)) rfl rfl rfl) ?_
  refine GL.val trivial rfl (OV.move (v := .bool ((r15 : Int) == 0)) rfl) ?_
  refine GL.cut0 3 [(63, .bool (((r15 : Int) == 0) && ((r20 : Int) == 0))), (3, pv (some (b5, 0))), (4, pv r10), (5, .int .i64 r14), (7, .int .i64 r19), (9, .int .i64 r24), (10, .int .i64 r25), (11, slv r35), (12, .int .i64 r36), (13, pv (some (b41, 0))), (14, .int .i64 r39), (16, .int .i64 r45)] ?_ ?_
  · rcases Bool.eq_false_or_eq_true ((r15 : Int) == 0) with hc50 | hc50
    · skip
      refine GL.val ⟨_, _, rfl, rfl, hc50⟩ rfl (OV.move (v := .int .i64 r20) rfl) ?_
      refine GL.val ⟨_, _, rfl, rfl, hc50⟩ rfl (OV.ibin (v := .bool ((r20 : Int) == 0)) rfl rfl rfl) ?_
      refine GL.val trivial rfl (OV.pickT (b := (r15 : Int) == 0) (v := .bool ((r20 : Int) == 0)) rfl hc50 rfl) ?_
      exact GL.jump0 (fun _ _ h => h) () rfl ⟨(by rw [hc50]; rfl), rfl, rfl, rfl, rfl, rfl, rfl, rfl, rfl, rfl, rfl, rfl, trivial⟩
    · skip
      refine GL.skip ⟨_, rfl, .inl ⟨_, rfl, hc50⟩⟩ rfl ?_
      refine GL.skip ⟨_, rfl, .inl ⟨_, rfl, hc50⟩⟩ rfl ?_
      refine GL.val trivial rfl (OV.pickF (b := (r15 : Int) == 0) (v := .bool false) rfl hc50 rfl) ?_
      exact GL.jump0 (fun _ _ h => h) () rfl ⟨(by rw [hc50]; rfl), rfl, rfl, rfl, rfl, rfl, rfl, rfl, rfl, rfl, rfl, rfl, trivial⟩
  refine GL.val trivial rfl (OV.move (v := .bool (((r15 : Int) == 0) && ((r20 : Int) == 0))) rfl) ?_
  refine GL.cut0 3 [(67, .bool ((((r15 : Int) == 0) && ((r20 : Int) == 0)) && ((r25 : Int) == 0))), (3, pv (some (b5, 0))), (4, pv r10), (5, .int .i64 r14), (7, .int .i64 r19), (9, .int .i64 r24), (11, slv r35), (12, .int .i64 r36), (13, pv (some (b41, 0))), (14, .int .i64 r39), (16, .int .i64 r45)] ?_ ?_
  · rcases Bool.eq_false_or_eq_true (((r15 : Int) == 0) && ((r20 : Int) == 0)) with hc51 | hc51
    · skip
      refine GL.val ⟨_, _, rfl, rfl, hc51⟩ rfl (OV.move (v := .int .i64 r25) rfl) ?_
      refine GL.val ⟨_, _, rfl, rfl, hc51⟩ rfl (OV.ibin (v := .bool ((r25 : Int) == 0)) rfl rfl rfl) ?_
      refine GL.val trivial rfl (OV.pickT (b := ((r15 : Int) == 0) && ((r20 : Int) == 0)) (v := .bool ((r25 : Int) == 0)) rfl hc51 rfl) ?_
      exact GL.jump0 (fun _ _ h => h) () rfl ⟨(by rw [hc51]; rfl), rfl, rfl, rfl, rfl, rfl, rfl, rfl, rfl, rfl, rfl, trivial⟩
    · skip
      refine GL.skip ⟨_, rfl, .inl ⟨_, rfl, hc51⟩⟩ rfl ?_
      refine GL.skip ⟨_, rfl, .inl ⟨_, rfl, hc51⟩⟩ rfl ?_
      refine GL.val trivial rfl (OV.pickF (b := ((r15 : Int) == 0) && ((r20 : Int) == 0)) (v := .bool false) rfl hc51 rfl) ?_
      exact GL.jump0 (fun _ _ h => h) () rfl ⟨(by rw [hc51]; rfl), rfl, rfl, rfl, rfl, rfl, rfl, rfl, rfl, rfl, rfl, trivial⟩
  refine GL.val trivial rfl (OV.move (v := .bool ((((r15 : Int) == 0) && ((r20 : Int) == 0)) && ((r25 : Int) == 0))) rfl) ?_
  refine GL.cut0 3 [(71, .bool (((((r15 : Int) == 0) && ((r20 : Int) == 0)) && ((r25 : Int) == 0)) && ((r36 : Int) == 0))), (3, pv (some (b5, 0))), (4, pv r10), (5, .int .i64 r14), (7, .int .i64 r19), (9, .int .i64 r24), (11, slv r35), (13, pv (some (b41, 0))), (14, .int .i64 r39), (16, .int .i64 r45)] ?_ ?_
  · rcases Bool.eq_false_or_eq_true ((((r15 : Int) == 0) && ((r20 : Int) == 0)) && ((r25 : Int) == 0)) with hc52 | hc52
    · skip
      refine GL.val ⟨_, _, rfl, rfl, hc52⟩ rfl (OV.move (v := .int .i64 r36) rfl) ?_
      refine GL.val ⟨_, _, rfl, rfl, hc52⟩ rfl (OV.ibin (v := .bool ((r36 : Int) == 0)) rfl rfl rfl) ?_
      refine GL.val trivial rfl (OV.pickT (b := (((r15 : Int) == 0) && ((r20 : Int) == 0)) && ((r25 : Int) == 0)) (v := .bool ((r36 : Int) == 0)) rfl hc52 rfl) ?_
      exact GL.jump0 (fun _ _ h => h) () rfl ⟨(by rw [hc52]; rfl), rfl, rfl, rfl, rfl, rfl, rfl, rfl, rfl, rfl, trivial⟩
    · skip
      refine GL.skip ⟨_, rfl, .inl ⟨_, rfl, hc52⟩⟩ rfl ?_
      refine GL.skip ⟨_, rfl, .inl ⟨_, rfl, hc52⟩⟩ rfl ?_
      refine GL.val trivial rfl (OV.pickF (b := (((r15 : Int) == 0) && ((r20 : Int) == 0)) && ((r25 : Int) == 0)) (v := .bool false) rfl hc52 rfl) ?_
      exact GL.jump0 (fun _ _ h => h) () rfl ⟨(by rw [hc52]; rfl), rfl, rfl, rfl, rfl, rfl, rfl, rfl, rfl, rfl, trivial⟩
  refine GL.val trivial rfl (OV.move (v := .bool (((((r15 : Int) == 0) && ((r20 : Int) == 0)) && ((r25 : Int) == 0)) && ((r36 : Int) == 0))) rfl) ?_
  refine GL.cut0 3 [(75, .bool ((((((r15 : Int) == 0) && ((r20 : Int) == 0)) && ((r25 : Int) == 0)) && ((r36 : Int) == 0)) && ((r39 : Int) == 0))), (3, pv (some (b5, 0))), (4, pv r10), (5, .int .i64 r14), (7, .int .i64 r19), (9, .int .i64 r24), (11, slv r35), (13, pv (some (b41, 0))), (16, .int .i64 r45)] ?_ ?_
  · rcases Bool.eq_false_or_eq_true (((((r15 : Int) == 0) && ((r20 : Int) == 0)) && ((r25 : Int) == 0)) && ((r36 : Int) == 0)) with hc53 | hc53
    · skip
      refine GL.val ⟨_, _, rfl, rfl, hc53⟩ rfl (OV.move (v := .int .i64 r39) rfl) ?_
      refine GL.val ⟨_, _, rfl, rfl, hc53⟩ rfl (OV.ibin (v := .bool ((r39 : Int) == 0)) rfl rfl rfl) ?_
      refine GL.val trivial rfl (OV.pickT (b := ((((r15 : Int) == 0) && ((r20 : Int) == 0)) && ((r25 : Int) == 0)) && ((r36 : Int) == 0)) (v := .bool ((r39 : Int) == 0)) rfl hc53 rfl) ?_
      exact GL.jump0 (fun _ _ h => h) () rfl ⟨(by rw [hc53]; rfl), rfl, rfl, rfl, rfl, rfl, rfl, rfl, rfl, trivial⟩
    · skip
      refine GL.skip ⟨_, rfl, .inl ⟨_, rfl, hc53⟩⟩ rfl ?_
      refine GL.skip ⟨_, rfl, .inl ⟨_, rfl, hc53⟩⟩ rfl ?_
      refine GL.val trivial rfl (OV.pickF (b := ((((r15 : Int) == 0) && ((r20 : Int) == 0)) && ((r25 : Int) == 0)) && ((r36 : Int) == 0)) (v := .bool false) rfl hc53 rfl) ?_
      exact GL.jump0 (fun _ _ h => h) () rfl ⟨(by rw [hc53]; rfl), rfl, rfl, rfl, rfl, rfl, rfl, rfl, rfl, trivial⟩
  refine GL.val trivial rfl (OV.move (v := .bool ((((((r15 : Int) == 0) && ((r20 : Int) == 0)) && ((r25 : Int) == 0)) && ((r36 : Int) == 0)) && ((r39 : Int) == 0))) rfl) ?_
  refine GL.cut0 3 [(79, .bool (((((((r15 : Int) == 0) && ((r20 : Int) == 0)) && ((r25 : Int) == 0)) && ((r36 : Int) == 0)) && ((r39 : Int) == 0)) && ((r45 : Int) == 5))), (3, pv (some (b5, 0))), (4, pv r10), (5, .int .i64 r14), (7, .int .i64 r19), (9, .int .i64 r24), (11, slv r35), (13, pv (some (b41, 0)))] ?_ ?_
  · rcases Bool.eq_false_or_eq_true ((((((r15 : Int) == 0) && ((r20 : Int) == 0)) && ((r25 : Int) == 0)) && ((r36 : Int) == 0)) && ((r39 : Int) == 0)) with hc54 | hc54
    · skip
      refine GL.val ⟨_, _, rfl, rfl, hc54⟩ rfl (OV.move (v := .int .i64 r45) rfl) ?_
      refine GL.val ⟨_, _, rfl, rfl, hc54⟩ rfl (OV.ibin (v := .bool ((r45 : Int) == 5)) rfl rfl rfl) ?_
      refine GL.val trivial rfl (OV.pickT (b := (((((r15 : Int) == 0) && ((r20 : Int) == 0)) && ((r25 : Int) == 0)) && ((r36 : Int) == 0)) && ((r39 : Int) == 0)) (v := .bool ((r45 : Int) == 5)) rfl hc54 rfl) ?_
      exact GL.jump0 (fun _ _ h => h) () rfl ⟨(by rw [hc54]; rfl), rfl, rfl, rfl, rfl, rfl, rfl, rfl, trivial⟩
    · skip
      refine GL.skip ⟨_, rfl, .inl ⟨_, rfl, hc54⟩⟩ rfl ?_
      refine GL.skip ⟨_, rfl, .inl ⟨_, rfl, hc54⟩⟩ rfl ?_
      refine GL.val trivial rfl (OV.pickF (b := (((((r15 : Int) == 0) && ((r20 : Int) == 0)) && ((r25 : Int) == 0)) && ((r36 : Int) == 0)) && ((r39 : Int) == 0)) (v := .bool false) rfl hc54 rfl) ?_
      exact GL.jump0 (fun _ _ h => h) () rfl ⟨(by rw [hc54]; rfl), rfl, rfl, rfl, rfl, rfl, rfl, rfl, trivial⟩
  refine GL.val trivial rfl (OV.move (v := .bool (((((((r15 : Int) == 0) && ((r20 : Int) == 0)) && ((r25 : Int) == 0)) && ((r36 : Int) == 0)) && ((r39 : Int) == 0)) && ((r45 : Int) == 5))) rfl) ?_
  refine GL.cut0 3 [(83, .bool ((((((((r15 : Int) == 0) && ((r20 : Int) == 0)) && ((r25 : Int) == 0)) && ((r36 : Int) == 0)) && ((r39 : Int) == 0)) && ((r45 : Int) == 5)) && ((r14 : Int) == 0))), (3, pv (some (b5, 0))), (4, pv r10), (7, .int .i64 r19), (9, .int .i64 r24), (11, slv r35), (13, pv (some (b41, 0)))] ?_ ?_
  · rcases Bool.eq_false_or_eq_true (((((((r15 : Int) == 0) && ((r20 : Int) == 0)) && ((r25 : Int) == 0)) && ((r36 : Int) == 0)) && ((r39 : Int) == 0)) && ((r45 : Int) == 5)) with hc55 | hc55
    · skip
      refine GL.val ⟨_, _, rfl, rfl, hc55⟩ rfl (OV.move (v := .int .i64 r14) rfl) ?_
      refine GL.val ⟨_, _, rfl, rfl, hc55⟩ rfl (OV.ibin (v := .bool ((r14 : Int) == 0)) rfl rfl rfl) ?_
      refine GL.val trivial rfl (OV.pickT (b := ((((((r15 : Int) == 0) && ((r20 : Int) == 0)) && ((r25 : Int) == 0)) && ((r36 : Int) == 0)) && ((r39 : Int) == 0)) && ((r45 : Int) == 5)) (v := .bool ((r14 : Int) == 0)) rfl hc55 rfl) ?_
      exact GL.jump0 (fun _ _ h => h) () rfl ⟨(by rw [hc55]; rfl), rfl, rfl, rfl, rfl, rfl, rfl, trivial⟩
    · skip
      refine GL.skip ⟨_, rfl, .inl ⟨_, rfl, hc55⟩⟩ rfl ?_
      refine GL.skip ⟨_, rfl, .inl ⟨_, rfl, hc55⟩⟩ rfl ?_
      refine GL.val trivial rfl (OV.pickF (b := ((((((r15 : Int) == 0) && ((r20 : Int) == 0)) && ((r25 : Int) == 0)) && ((r36 : Int) == 0)) && ((r39 : Int) == 0)) && ((r45 : Int) == 5)) (v := .bool false) rfl hc55 rfl) ?_
      exact GL.jump0 (fun _ _ h => h) () rfl ⟨(by rw [hc55]; rfl), rfl, rfl, rfl, rfl, rfl, rfl, trivial⟩
  refine GL.val trivial rfl (OV.move (v := .bool ((((((((r15 : Int) == 0) && ((r20 : Int) == 0)) && ((r25 : Int) == 0)) && ((r36 : Int) == 0)) && ((r39 : Int) == 0)) && ((r45 : Int) == 5)) && ((r14 : Int) == 0))) rfl) ?_
  refine GL.cut0 3 [(87, .bool (((((((((r15 : Int) == 0) && ((r20 : Int) == 0)) && ((r25 : Int) == 0)) && ((r36 : Int) == 0)) && ((r39 : Int) == 0)) && ((r45 : Int) == 5)) && ((r14 : Int) == 0)) && ((r19 : Int) == 1))), (3, pv (some (b5, 0))), (4, pv r10), (9, .int .i64 r24), (11, slv r35), (13, pv (some (b41, 0)))] ?_ ?_
  · rcases Bool.eq_false_or_eq_true ((((((((r15 : Int) == 0) && ((r20 : Int) == 0)) && ((r25 : Int) == 0)) && ((r36 : Int) == 0)) && ((r39 : Int) == 0)) && ((r45 : Int) == 5)) && ((r14 : Int) == 0)) with hc56 | hc56
    · skip
      refine GL.val ⟨_, _, rfl, rfl, hc56⟩ rfl (OV.move (v := .int .i64 r19) rfl) ?_
      refine GL.val ⟨_, _, rfl, rfl, hc56⟩ rfl (OV.ibin (v := .bool ((r19 : Int) == 1)) rfl rfl rfl) ?_
      refine GL.val trivial rfl (OV.pickT (b := (((((((r15 : Int) == 0) && ((r20 : Int) == 0)) && ((r25 : Int) == 0)) && ((r36 : Int) == 0)) && ((r39 : Int) == 0)) && ((r45 : Int) == 5)) && ((r14 : Int) == 0)) (v := .bool ((r19 : Int) == 1)) rfl hc56 rfl) ?_
      exact GL.jump0 (fun _ _ h => h) () rfl ⟨(by rw [hc56]; rfl), rfl, rfl, rfl, rfl, rfl, trivial⟩
    · skip
      refine GL.skip ⟨_, rfl, .inl ⟨_, rfl, hc56⟩⟩ rfl ?_
      refine GL.skip ⟨_, rfl, .inl ⟨_, rfl, hc56⟩⟩ rfl ?_
      refine GL.val trivial rfl (OV.pickF (b := (((((((r15 : Int) == 0) && ((r20 : Int) == 0)) && ((r25 : Int) == 0)) && ((r36 : Int) == 0)) && ((r39 : Int) == 0)) && ((r45 : Int) == 5)) && ((r14 : Int) == 0)) (v := .bool false) rfl hc56 rfl) ?_
      exact GL.jump0 (fun _ _ h => h) () rfl ⟨(by rw [hc56]; rfl), rfl, rfl, rfl, rfl, rfl, trivial⟩
  refine GL.val trivial rfl (OV.move (v := .bool (((((((((r15 : Int) == 0) && ((r20 : Int) == 0)) && ((r25 : Int) == 0)) && ((r36 : Int) == 0)) && ((r39 : Int) == 0)) && ((r45 : Int) == 5)) && ((r14 : Int) == 0)) && ((r19 : Int) == 1))) rfl) ?_
  refine GL.cut0 3 [(91, .bool ((((((((((r15 : Int) == 0) && ((r20 : Int) == 0)) && ((r25 : Int) == 0)) && ((r36 : Int) == 0)) && ((r39 : Int) == 0)) && ((r45 : Int) == 5)) && ((r14 : Int) == 0)) && ((r19 : Int) == 1)) && ((r24 : Int) == 0))), (3, pv (some (b5, 0))), (4, pv r10), (11, slv r35), (13, pv (some (b41, 0)))] ?_ ?_
  · rcases Bool.eq_false_or_eq_true (((((((((r15 : Int) == 0) && ((r20 : Int) == 0)) && ((r25 : Int) == 0)) && ((r36 : Int) == 0)) && ((r39 : Int) == 0)) && ((r45 : Int) == 5)) && ((r14 : Int) == 0)) && ((r19 : Int) == 1)) with hc57 | hc57
    · skip
      refine GL.val ⟨_, _, rfl, rfl, hc57⟩ rfl (OV.move (v := .int .i64 r24) rfl) ?_
      refine GL.val ⟨_, _, rfl, rfl, hc57⟩ rfl (OV.ibin (v := .bool ((r24 : Int) == 0)) rfl rfl rfl) ?_
      refine GL.val trivial rfl (OV.pickT (b := ((((((((r15 : Int) == 0) && ((r20 : Int) == 0)) && ((r25 : Int) == 0)) && ((r36 : Int) == 0)) && ((r39 : Int) == 0)) && ((r45 : Int) == 5)) && ((r14 : Int) == 0)) && ((r19 : Int) == 1)) (v := .bool ((r24 : Int) == 0)) rfl hc57 rfl) ?_
      exact GL.jump0 (fun _ _ h => h) () rfl ⟨(by rw [hc57]; rfl), rfl, rfl, rfl, rfl, trivial⟩
    · skip
      refine GL.skip ⟨_, rfl, .inl ⟨_, rfl, hc57⟩⟩ rfl ?_
      refine GL.skip ⟨_, rfl, .inl ⟨_, rfl, hc57⟩⟩ rfl ?_
      refine GL.val trivial rfl (OV.pickF (b := ((((((((r15 : Int) == 0) && ((r20 : Int) == 0)) && ((r25 : Int) == 0)) && ((r36 : Int) == 0)) && ((r39 : Int) == 0)) && ((r45 : Int) == 5)) && ((r14 : Int) == 0)) && ((r19 : Int) == 1)) (v := .bool false) rfl hc57 rfl) ?_
      exact GL.jump0 (fun _ _ h => h) () rfl ⟨(by rw [hc57]; rfl), rfl, rfl, rfl, rfl, trivial⟩
  refine GL.val trivial rfl (OV.move (v := .bool ((((((((((r15 : Int) == 0) && ((r20 : Int) == 0)) && ((r25 : Int) == 0)) && ((r36 : Int) == 0)) && ((r39 : Int) == 0)) && ((r45 : Int) == 5)) && ((r14 : Int) == 0)) && ((r19 : Int) == 1)) && ((r24 : Int) == 0))) rfl) ?_
  obtain ⟨J59, h, hR60⟩ := h
  refine GL.cut (α := Bool) 4 J59 (fun b58 => [(96, .bool b58), (3, pv (some (b5, 0))), (4, pv r10), (13, pv (some (b41, 0)))]) ?_ ?_
  · rcases Bool.eq_false_or_eq_true ((((((((((r15 : Int) == 0) && ((r20 : Int) == 0)) && ((r25 : Int) == 0)) && ((r36 : Int) == 0)) && ((r39 : Int) == 0)) && ((r45 : Int) == 5)) && ((r14 : Int) == 0)) && ((r19 : Int) == 1)) && ((r24 : Int) == 0)) with hc61 | hc61
    · skip
      replace h := And.left h hc61
      refine GL.val ⟨_, _, rfl, rfl, hc61⟩ rfl (OV.move (v := slv r35) rfl) ?_
      refine GL.buildSlice (cs := [.int .i64 1, .int .i64 2, .int .i64 0]) h ⟨_, _, rfl, rfl, hc61⟩ rfl (vs := [(0, .int .i64 1), (1, .int .i64 2), (2, .int .i64 0)]) rfl ⟨3, fun _ => by kernel_rfl⟩ ?_
      intro b62 H63 h
      refine GL.call h ⟨_, _, rfl, rfl, hc61⟩ rfl ok_ref04_Ints (vs := [slv r35, slv (Sl.of (some (b62, 0)) 3 3)]) rfl ?_
      rintro _ H65 ⟨r64, rfl, h⟩
      refine GL.val trivial rfl (OV.pickT (b := (((((((((r15 : Int) == 0) && ((r20 : Int) == 0)) && ((r25 : Int) == 0)) && ((r36 : Int) == 0)) && ((r39 : Int) == 0)) && ((r45 : Int) == 5)) && ((r14 : Int) == 0)) && ((r19 : Int) == 1)) && ((r24 : Int) == 0)) (v := .bool r64) rfl hc61 rfl) ?_
      exact GL.jump (fun _ _ h => h) r64 h ⟨rfl, rfl, rfl, rfl, trivial⟩
    · skip
      replace h := And.right h hc61
      refine GL.skip ⟨_, rfl, .inl ⟨_, rfl, hc61⟩⟩ rfl ?_
      refine GL.skip ⟨_, rfl, .inl ⟨_, rfl, hc61⟩⟩ rfl ?_
      refine GL.skip ⟨_, rfl, .inl ⟨_, rfl, hc61⟩⟩ rfl ?_
      refine GL.val trivial rfl (OV.pickF (b := (((((((((r15 : Int) == 0) && ((r20 : Int) == 0)) && ((r25 : Int) == 0)) && ((r36 : Int) == 0)) && ((r39 : Int) == 0)) && ((r45 : Int) == 5)) && ((r14 : Int) == 0)) && ((r19 : Int) == 1)) && ((r24 : Int) == 0)) (v := .bool false) rfl hc61 rfl) ?_
      exact GL.jump (fun _ _ h => h) false h ⟨rfl, rfl, rfl, rfl, trivial⟩
  intro b58 H66 h
  replace h := hR60 b58 H66 h
  refine GL.val trivial rfl (OV.move (v := .bool b58) rfl) ?_
  obtain ⟨J68, h, hR69⟩ := h
  refine GL.cut (α := Bool) 4 J68 (fun b67 => [(101, .bool b67), (4, pv r10)]) ?_ ?_
  · rcases Bool.eq_false_or_eq_true b58 with hc70 | hc70
    · skip
      replace h := And.left h hc70
      obtain ⟨x71, hr72, h⟩ := h
      refine GL.val ⟨_, _, rfl, rfl, hc70⟩ rfl (OV.loadT (p := (b41, 0)) (cs := T_api_Value.c x71) rfl rfl rfl hr72) ?_
      obtain ⟨x73, hr74, h⟩ := h
      refine GL.val ⟨_, _, rfl, rfl, hc70⟩ rfl (OV.loadT (p := (b5, 0)) (cs := T_api_Value.c x73) rfl rfl rfl hr74) ?_
      refine GL.call h ⟨_, _, rfl, rfl, hc70⟩ rfl ok_ref02_Same (vs := [.agg (T_api_Value.c x71).toArray, .agg (T_api_Value.c x73).toArray]) rfl ?_
      rintro _ H76 ⟨r75, rfl, h⟩
      refine GL.val trivial rfl (OV.pickT (b := b58) (v := .bool r75) rfl hc70 rfl) ?_
      exact GL.jump (fun _ _ h => h) r75 h ⟨rfl, rfl, trivial⟩
    · skip
      replace h := And.right h hc70
      refine GL.skip ⟨_, rfl, .inl ⟨_, rfl, hc70⟩⟩ rfl ?_
      refine GL.skip ⟨_, rfl, .inl ⟨_, rfl, hc70⟩⟩ rfl ?_
      refine GL.skip ⟨_, rfl, .inl ⟨_, rfl, hc70⟩⟩ rfl ?_
      refine GL.val trivial rfl (OV.pickF (b := b58) (v := .bool false) rfl hc70 rfl) ?_
      exact GL.jump (fun _ _ h => h) false h ⟨rfl, rfl, trivial⟩
  intro b67 H77 h
  replace h := hR69 b67 H77 h
  refine GL.val trivial rfl (OV.move (v := .bool b67) rfl) ?_
  obtain ⟨J79, h, hR80⟩ := h
  refine GL.cut (α := Bool) 4 J79 (fun b78 => [(106, .bool b78)]) ?_ ?_
  · rcases Bool.eq_false_or_eq_true b67 with hc81 | hc81
    · skip
      replace h := And.left h hc81
      refine GL.val ⟨_, _, rfl, rfl, hc81⟩ rfl (OV.move (v := pv r10) rfl) ?_
      refine GL.call h ⟨_, _, rfl, rfl, hc81⟩ rfl ok_intern_Table_Len (vs := [pv r10]) rfl ?_
      rintro _ H83 ⟨r82, rfl, h⟩
      refine GL.val ⟨_, _, rfl, rfl, hc81⟩ rfl (OV.ibin (v := .bool ((r82 : Int) == 3)) rfl rfl rfl) ?_
      refine GL.val trivial rfl (OV.pickT (b := b67) (v := .bool ((r82 : Int) == 3)) rfl hc81 rfl) ?_
      exact GL.jump (fun _ _ h => h) ((r82 : Int) == 3) h ⟨rfl, trivial⟩
    · skip
      replace h := And.right h hc81
      refine GL.skip ⟨_, rfl, .inl ⟨_, rfl, hc81⟩⟩ rfl ?_
      refine GL.skip ⟨_, rfl, .inl ⟨_, rfl, hc81⟩⟩ rfl ?_
      refine GL.skip ⟨_, rfl, .inl ⟨_, rfl, hc81⟩⟩ rfl ?_
      refine GL.val trivial rfl (OV.pickF (b := b67) (v := .bool false) rfl hc81 rfl) ?_
      exact GL.jump (fun _ _ h => h) false h ⟨rfl, trivial⟩
  intro b78 H84 h
  replace h := hR80 b78 H84 h
  refine GL.val trivial rfl (OV.assign (v := .bool b78) rfl) ?_
  refine GL.nil ?_
  exact GC.ret (fun _ _ hf hs => post_tmp1 rfl rfl hf hs ⟨b78, rfl, h⟩)

def sh_intern_New (C : Ctx) (K : Option (Nat × Nat) → Heap → Prop) (H : Heap) : Prop :=
  mkM (fun b1 H2 =>
 nw (T_intern_Table.c (⟨Sl.nil, (some b1)⟩ : T_intern_Table)) (fun b3 H4 =>
 K (some (b3, 0)) H4) H2) H

theorem ad_intern_New (C : Ctx) (K : Option (Nat × Nat) → Heap → Prop) (H : Heap) (h : sh_intern_New C  K H) : c_intern_New C  K H := by
  refine Spec.enter Tryd.func7 rfl Tryd.ntmps7 rfl ?_
  refine GC.sub [] trivial ?_
  refine GC.seq ?_
  refine GC.region ?_
  refine GL.val trivial rfl (OV.assign (v := pv none) rfl) ?_
  refine GL.nil ?_
  refine GC.seq ?_
  refine GC.region ?_
  refine GL.makeMap h trivial rfl ?_
  intro b1 H2 h
  refine GL.val trivial rfl (OV.build (vs := [(1, mv (some b1))]) (v := .agg (T_intern_Table.c (⟨Sl.nil, (some b1)⟩ : T_intern_Table)).toArray) rfl (fun _ => by kernel_rfl)) ?_
  refine GL.box (v := .agg (T_intern_Table.c (⟨Sl.nil, (some b1)⟩ : T_intern_Table)).toArray) (cs := T_intern_Table.c (⟨Sl.nil, (some b1)⟩ : T_intern_Table)) h trivial rfl rfl rfl ?_
  intro b3 H4 h
  refine GL.val trivial rfl (OV.assign (v := pv (some (b3, 0))) rfl) ?_
  refine GL.nil ?_
  exact GC.ret (fun _ _ hf hs => post_tmp1 rfl rfl hf hs ⟨(some (b3, 0)), rfl, h⟩)

def sh_law04_Op_do (C : Ctx) (p_o : T_law04_Op) (p_t : Option (Nat × Nat)) (p_x : Option (Nat × Nat)) (K : Bool → Heap → Prop) (H : Heap) : Prop :=
  nw (T_law04_Op.c p_o) (fun b1 H2 =>
 ldL H2 ((b1, 0).1, (b1, 0).2 + 1) fun x3 =>
 c_ref02_Own C x3 (fun r5 H6 =>
 nw ([]) (fun b7 H8 =>
 ldL H8 ((b1, 0).1, (b1, 0).2 + 2) fun x9 =>
 apS ([.int .i64 0]) 8 (Sl.of (some (b7, 0)) 0 0) x9 (fun r11 H12 =>
 nw (T_api_Value.c T_api_Value.zero) (fun b13 H14 =>
 jn (α := Unit) (fun x16 H17 =>
 jn (α := Unit) (fun x29 H30 =>
 ldL H30 ((b1, 0).1, (b1, 0).2 + 1) fun x160 =>
 c_ref02_SameRow C r5 x160 (fun r162 H163 =>
 c_law04_spoil C r5 (fun H164 =>
 dr H164 fun Hs165 =>
 ift r162
 (nck p_x fun p168 =>
 ldL Hs165 (p168.1, p168.2 + 0) fun x170 =>
 c_intern_Table_Len C p_t (fun r173 H174 =>
 Heap.le Hs165 H174 ∧
 K ((r173 : Int) == (Sl.len x170 : Int)) H174) H164)
 (K false H164)) H163) H30)
 (fun J28 => ldI H17 .u8 ((b1, 0).1, (b1, 0).2 + 0) fun x32 =>
 ift ((x32 : Int) == 0)
 (ldT H17 T_api_Value.c (b13, 0) fun x35 =>
 c_intern_Table_Put C p_t x35 (fun r37 r38 H39 =>
 ldT H39 T_api_Value.c (b13, 0) fun x40 =>
 c_ref04_Table_Put C p_x x40 (fun r42 r43 H44 =>
 ift (((r37 : Int) != r42) || ((r38 : Int) != r43))
 (K false H44)
 (J28 () H44)) H39) H17)
 (ift ((x32 : Int) == 1)
 (c_intern_Table_PutRow C p_t r5 (fun r48 r49 H50 =>
 ldL H50 ((b1, 0).1, (b1, 0).2 + 1) fun x51 =>
 c_ref04_Table_PutRow C p_x x51 (fun r53 r54 H55 =>
 c_ref04_Ints C r48 r53 (fun r56 H57 =>
 ift ((!r56) || ((r49 : Int) != r54))
 (K false H57)
 (J28 () H57)) H55) H50) H17)
 (ift ((x32 : Int) == 2)
 (ldT H17 T_api_Value.c (b13, 0) fun x61 =>
 c_intern_Table_Find C p_t x61 (fun r63 r64 H65 =>
 ldT H65 T_api_Value.c (b13, 0) fun x66 =>
 c_ref04_Table_Find C p_x x66 (fun r68 r69 H70 =>
 ift (((r63 : Int) != r68) || (!(r64 == r69)))
 (K false H70)
 (J28 () H70)) H65) H17)
 (ift ((x32 : Int) == 3)
 (jn (α := Int) (fun x75 H76 =>
 c_intern_Table_At C p_t x75 (fun r86 r87 H88 =>
 nw (T_api_Value.c T_api_Value.zero) (fun b89 H90 =>
 stT (b89, 0) (T_api_Value.c r86) (fun H91 =>
 nw ([.int .i64 x75]) (fun b92 H93 =>
 c_ref04_Table_Row C p_x (Sl.of (some (b92, 0)) 1 1) (fun r94 r95 H96 =>
 jn (α := Bool) (fun x98 H99 =>
 ift x98
 (K false H99)
 (ldL H99 ((b89, 0).1, (b89, 0).2 + 3) fun x131 =>
 c_law04_spoil C x131 (fun H133 =>
 J28 () H133) H99))
 (fun J97 => dr H96 fun Hs101 =>
 ift ((r87 : Int) != r95)
 (J97 true H96)
 (ift ((r95 : Int) == 0)
 (ldT Hs101 T_api_Value.c (b89, 0) fun x105 =>
 ixa r94 0 fun p107 =>
 ldT Hs101 T_api_Value.c (p107.1, p107.2 + (0 : Int).toNat * 4) fun x112 =>
 c_ref02_Same C x105 x112 (fun r115 H116 =>
 Heap.le Hs101 H116 ∧
 ift (!r115)
 (J97 true H116)
 (ift ((r95 : Int) != 0)
 (ldT Hs101 T_api_Value.c (b89, 0) fun x119 =>
 c_ref02_Same C x119 (⟨0, 0, [], Sl.nil⟩ : T_api_Value) (fun r122 H123 =>
 Heap.le Hs101 H123 ∧
 J97 (!r122) H123) H116)
 (J97 false H116))) H96)
 (ift ((r95 : Int) != 0)
 (ldT Hs101 T_api_Value.c (b89, 0) fun x125 =>
 c_ref02_Same C x125 (⟨0, 0, [], Sl.nil⟩ : T_api_Value) (fun r128 H129 =>
 Heap.le Hs101 H129 ∧
 J97 (!r128) H129) H96)
 (J97 false H96))))) H93) H91) H90) H88) H76)
 (fun J74 => ift (decide (((Sl.len r11 : Int) : Int) > 0))
 (ixa r11 0 fun p79 =>
 ldI H17 .i64 (p79.1, p79.2 + (0 : Int).toNat * 1) fun x84 =>
 J74 x84 H17)
 (J74 0 H17)))
 (c_intern_Table_Row C p_t r11 (fun r134 r135 H136 =>
 ldL H136 ((b1, 0).1, (b1, 0).2 + 2) fun x137 =>
 c_ref04_Table_Row C p_x x137 (fun r139 r140 H141 =>
 jn (α := Bool) (fun b142 H148 =>
 jn (α := Bool) (fun b149 H157 =>
 ift b149
 (K false H157)
 (c_law04_spoil C r134 (fun H159 =>
 J28 () H159) H157))
 (fun J150 => ift b142
 (J150 true H148)
 (ldL H148 ((b1, 0).1, (b1, 0).2 + 2) fun x153 =>
 c_ref04_Ints C r11 x153 (fun r155 H156 =>
 J150 (!r155) H156) H148)))
 (fun J143 => ift ((r135 : Int) != r140)
 (J143 true H141)
 (c_ref02_SameRow C r134 r139 (fun r146 H147 =>
 J143 (!r146) H147) H141))) H136) H17))))))
 (fun J15 => ift (decide (((Sl.len r5 : Int) : Int) > 0))
 (ixa r5 0 fun p20 =>
 ldT H14 T_api_Value.c (p20.1, p20.2 + (0 : Int).toNat * 4) fun x25 =>
 stT (b13, 0) (T_api_Value.c x25) (fun H27 =>
 J15 () H27) H14)
 (J15 () H14))) H12) H8) H6) H2) H

theorem ad_law04_Op_do (C : Ctx) (p_o : T_law04_Op) (p_t : Option (Nat × Nat)) (p_x : Option (Nat × Nat)) (K : Bool → Heap → Prop) (H : Heap) (h : sh_law04_Op_do C p_o p_t p_x K H) : c_law04_Op_do C p_o p_t p_x K H := by
  refine Spec.enter Tryd.func8 rfl Tryd.ntmps8 rfl ?_
  refine GC.sub [(0, .agg (T_law04_Op.c p_o).toArray), (1, pv p_t), (2, pv p_x)] ⟨rfl, rfl, rfl, trivial⟩ ?_
  refine GC.seq ?_
  refine GC.region ?_
  refine GL.box (v := .agg (T_law04_Op.c p_o).toArray) (cs := T_law04_Op.c p_o) h trivial rfl rfl rfl ?_
  intro b1 H2 h
  refine GL.val trivial rfl (OV.assign (v := .bool false) rfl) ?_
  refine GL.nil ?_
  refine GC.seq ?_
  refine GC.region ?_
  refine GL.val trivial rfl (OV.fieldAddr (p := (b1, 0)) rfl rfl) ?_
  obtain ⟨x3, hr4, h⟩ := h
  refine GL.val trivial rfl (OV.load (p := ((b1, 0).1, (b1, 0).2 + 1)) rfl rfl hr4) ?_
  refine GL.call h trivial rfl ok_ref02_Own (vs := [slv x3]) rfl ?_
  rintro _ H6 ⟨r5, rfl, h⟩
  refine GL.val trivial rfl (OV.assign (v := slv r5) rfl) ?_
  refine GL.nil ?_
  refine GC.seq ?_
  refine GC.region ?_
  refine GL.buildSlice (cs := []) h trivial rfl (vs := []) rfl ⟨3, fun _ => by kernel_rfl⟩ ?_
  intro b7 H8 h
  refine GL.val trivial rfl (OV.fieldAddr (p := (b1, 0)) rfl rfl) ?_
  obtain ⟨x9, hr10, h⟩ := h
  refine GL.val trivial rfl (OV.load (p := ((b1, 0).1, (b1, 0).2 + 2)) rfl rfl hr10) ?_
  refine GL.appendS (s := (Sl.of (some (b7, 0)) 0 0)) (s2 := x9) (zc := [.int .i64 0]) (bytes := 8) h trivial rfl rfl rfl ⟨⟨_, _, _, rfl, rfl, rfl, rfl, rfl, rfl⟩⟩ rfl ?_
  intro r11 H12 h
  refine GL.val trivial rfl (OV.assign (v := slv r11) rfl) ?_
  refine GL.nil ?_
  refine GC.seq ?_
  refine GC.region ?_
  refine GL.alloc (cs := T_api_Value.c T_api_Value.zero) h trivial rfl rfl rfl ?_
  intro b13 H14 h
  refine GL.nil ?_
  obtain ⟨J15, h, hR18⟩ := h
  refine GC.join (α := Unit) J15 (fun _ => [(1, pv p_t), (2, pv p_x), (3, pv (some (b1, 0))), (7, slv r5), (8, slv r11), (9, pv (some (b13, 0)))]) ?_ ?_
  · skip
    refine GC.seq ?_
    refine GC.region ?_
    refine GL.val trivial rfl (OV.move (v := slv r5) rfl) ?_
    refine GL.val trivial rfl (OV.lenSl (s := r5) rfl rfl) ?_
    refine GL.val trivial rfl (OV.ibin (v := .bool (decide (((Sl.len r5 : Int) : Int) > 0))) rfl rfl rfl) ?_
    refine GL.nil ?_
    refine GC.cond (b := decide (((Sl.len r5 : Int) : Int) > 0)) rfl (fun hc19 => ?_) (fun hc19 => ?_)
    · replace h := And.left h hc19
      refine GC.region ?_
      refine GL.val trivial rfl (OV.move (v := slv r5) rfl) ?_
      obtain ⟨p20, ha21, hb22, hc23, hd24, h⟩ := h
      refine GL.val trivial rfl (OV.indexAddr (s := r5) rfl rfl rfl rfl ha21 hb22 hc23 hd24) ?_
      obtain ⟨x25, hr26, h⟩ := h
      refine GL.val trivial rfl (OV.loadT (p := (p20.1, p20.2 + (0 : Int).toNat * 4)) (cs := T_api_Value.c x25) rfl rfl rfl hr26) ?_
      refine GL.storeT (p := (b13, 0)) (vs := T_api_Value.c x25) h trivial rfl rfl rfl rfl ?_
      intro H27 h
      exact GL.jump (fun _ _ h => h) () h ⟨rfl, rfl, rfl, rfl, rfl, rfl, trivial⟩
    · replace h := And.right h hc19
      exact GC.jump (fun _ _ h => h) () h ⟨rfl, rfl, rfl, rfl, rfl, rfl, trivial⟩
  · intro x16 H17 h
    replace h := hR18 x16 H17 h
    obtain ⟨J28, h, hR31⟩ := h
    refine GC.join (α := Unit) J28 (fun _ => [(1, pv p_t), (2, pv p_x), (3, pv (some (b1, 0))), (7, slv r5)]) ?_ ?_
    · skip
      refine GC.seq ?_
      refine GC.region ?_
      refine GL.val trivial rfl (OV.fieldAddr (p := (b1, 0)) rfl rfl) ?_
      obtain ⟨x32, hr33, h⟩ := h
      refine GL.val trivial rfl (OV.load (p := ((b1, 0).1, (b1, 0).2 + 0)) rfl rfl hr33) ?_
      refine GL.nil ?_
      refine GC.block ?_
      refine GC.seq ?_
      refine GC.region ?_
      refine GL.val trivial rfl (OV.ibin (v := .bool ((x32 : Int) == 0)) rfl rfl rfl) ?_
      refine GL.val trivial rfl (OV.assign (v := .bool ((x32 : Int) == 0)) rfl) ?_
      refine GL.nil ?_
      refine GC.cond (b := (x32 : Int) == 0) rfl (fun hc34 => ?_) (fun hc34 => ?_)
      · replace h := And.left h hc34
        refine GC.seq ?_
        refine GC.region ?_
        refine GL.val trivial rfl (OV.move (v := pv p_t) rfl) ?_
        obtain ⟨x35, hr36, h⟩ := h
        refine GL.val trivial rfl (OV.loadT (p := (b13, 0)) (cs := T_api_Value.c x35) rfl rfl rfl hr36) ?_
        refine GL.call h trivial rfl ok_intern_Table_Put (vs := [pv p_t, .agg (T_api_Value.c x35).toArray]) rfl ?_
        rintro _ H39 ⟨r37, r38, rfl, h⟩
        refine GL.val trivial rfl (OV.move (v := .tuple #[.int .i64 r37, .int .i64 r38]) rfl) ?_
        refine GL.val trivial rfl (OV.extract (v := .int .i64 r37) rfl rfl) ?_
        refine GL.val trivial rfl (OV.extract (v := .int .i64 r38) rfl rfl) ?_
        refine GL.val trivial rfl (OV.assign (v := .int .i64 r37) rfl) ?_
        refine GL.val trivial rfl (OV.assign (v := .int .i64 r38) rfl) ?_
        refine GL.nil ?_
        refine GC.seq ?_
        refine GC.region ?_
        refine GL.val trivial rfl (OV.move (v := pv p_x) rfl) ?_
        obtain ⟨x40, hr41, h⟩ := h
        refine GL.val trivial rfl (OV.loadT (p := (b13, 0)) (cs := T_api_Value.c x40) rfl rfl rfl hr41) ?_
        refine GL.call h trivial rfl ok_ref04_Table_Put (vs := [pv p_x, .agg (T_api_Value.c x40).toArray]) rfl ?_
        rintro _ H44 ⟨r42, r43, rfl, h⟩
        refine GL.val trivial rfl (OV.move (v := .tuple #[.int .i64 r42, .int .i64 r43]) rfl) ?_
        refine GL.val trivial rfl (OV.extract (v := .int .i64 r42) rfl rfl) ?_
        refine GL.val trivial rfl (OV.extract (v := .int .i64 r43) rfl rfl) ?_
        refine GL.val trivial rfl (OV.assign (v := .int .i64 r42) rfl) ?_
        refine GL.val trivial rfl (OV.assign (v := .int .i64 r43) rfl) ?_
        refine GL.nil ?_
        refine GC.seq ?_
        refine GC.region ?_
        refine GL.val trivial rfl (OV.move (v := .int .i64 r37) rfl) ?_
        refine GL.val trivial rfl (OV.move (v := .int .i64 r42) rfl) ?_
        refine GL.val trivial rfl (OV.ibin (v := .bool ((r37 : Int) != r42)) rfl rfl rfl) ?_
        refine GL.val trivial rfl (OV.move (v := .bool ((r37 : Int) != r42)) rfl) ?_
        refine GL.cut0 4 [(99, .bool (((r37 : Int) != r42) || ((r38 : Int) != r43))), (1, pv p_t), (2, pv p_x), (3, pv (some (b1, 0))), (7, slv r5)] ?_ ?_
        · rcases Bool.eq_false_or_eq_true ((r37 : Int) != r42) with hc45 | hc45
          · skip
            refine GL.skip ⟨_, rfl, .inl ⟨_, rfl, hc45⟩⟩ rfl ?_
            refine GL.skip ⟨_, rfl, .inl ⟨_, rfl, hc45⟩⟩ rfl ?_
            refine GL.skip ⟨_, rfl, .inl ⟨_, rfl, hc45⟩⟩ rfl ?_
            refine GL.val trivial rfl (OV.pickT (b := (r37 : Int) != r42) (v := .bool true) rfl hc45 rfl) ?_
            exact GL.jump0 (fun _ _ h => h) () rfl ⟨(by rw [hc45]; rfl), rfl, rfl, rfl, rfl, trivial⟩
          · skip
            refine GL.val ⟨_, _, rfl, rfl, hc45⟩ rfl (OV.move (v := .int .i64 r38) rfl) ?_
            refine GL.val ⟨_, _, rfl, rfl, hc45⟩ rfl (OV.move (v := .int .i64 r43) rfl) ?_
            refine GL.val ⟨_, _, rfl, rfl, hc45⟩ rfl (OV.ibin (v := .bool ((r38 : Int) != r43)) rfl rfl rfl) ?_
            refine GL.val trivial rfl (OV.pickF (b := (r37 : Int) != r42) (v := .bool ((r38 : Int) != r43)) rfl hc45 rfl) ?_
            exact GL.jump0 (fun _ _ h => h) () rfl ⟨(by rw [hc45]; rfl), rfl, rfl, rfl, rfl, trivial⟩
        refine GL.nil ?_
        refine GC.cond (b := ((r37 : Int) != r42) || ((r38 : Int) != r43)) rfl (fun hc46 => ?_) (fun hc46 => ?_)
        · replace h := And.left h hc46
          refine GC.seq ?_
          refine GC.region ?_
          refine GL.val trivial rfl (OV.assign (v := .bool false) rfl) ?_
          refine GL.nil ?_
          exact GC.ret (fun _ _ hf hs => post_tmp1 rfl rfl hf hs ⟨false, rfl, h⟩)
        · replace h := And.right h hc46
          exact GC.jump (fun _ _ h => h) () h ⟨rfl, rfl, rfl, rfl, trivial⟩
      · replace h := And.right h hc34
        refine GC.seq ?_
        refine GC.region ?_
        refine GL.val trivial rfl (OV.ibin (v := .bool ((x32 : Int) == 1)) rfl rfl rfl) ?_
        refine GL.val trivial rfl (OV.assign (v := .bool ((x32 : Int) == 1)) rfl) ?_
        refine GL.nil ?_
        refine GC.cond (b := (x32 : Int) == 1) rfl (fun hc47 => ?_) (fun hc47 => ?_)
        · replace h := And.left h hc47
          refine GC.seq ?_
          refine GC.region ?_
          refine GL.val trivial rfl (OV.move (v := pv p_t) rfl) ?_
          refine GL.val trivial rfl (OV.move (v := slv r5) rfl) ?_
          refine GL.call h trivial rfl ok_intern_Table_PutRow (vs := [pv p_t, slv r5]) rfl ?_
          rintro _ H50 ⟨r48, r49, rfl, h⟩
          refine GL.val trivial rfl (OV.move (v := .tuple #[slv r48, .int .i64 r49]) rfl) ?_
          refine GL.val trivial rfl (OV.extract (v := slv r48) rfl rfl) ?_
          refine GL.val trivial rfl (OV.extract (v := .int .i64 r49) rfl rfl) ?_
          refine GL.val trivial rfl (OV.assign (v := slv r48) rfl) ?_
          refine GL.val trivial rfl (OV.assign (v := .int .i64 r49) rfl) ?_
          refine GL.nil ?_
          refine GC.seq ?_
          refine GC.region ?_
          refine GL.val trivial rfl (OV.move (v := pv p_x) rfl) ?_
          refine GL.val trivial rfl (OV.fieldAddr (p := (b1, 0)) rfl rfl) ?_
          obtain ⟨x51, hr52, h⟩ := h
          refine GL.val trivial rfl (OV.load (p := ((b1, 0).1, (b1, 0).2 + 1)) rfl rfl hr52) ?_
          refine GL.call h trivial rfl ok_ref04_Table_PutRow (vs := [pv p_x, slv x51]) rfl ?_
          rintro _ H55 ⟨r53, r54, rfl, h⟩
          refine GL.val trivial rfl (OV.move (v := .tuple #[slv r53, .int .i64 r54]) rfl) ?_
          refine GL.val trivial rfl (OV.extract (v := slv r53) rfl rfl) ?_
          refine GL.val trivial rfl (OV.extract (v := .int .i64 r54) rfl rfl) ?_
          refine GL.val trivial rfl (OV.assign (v := slv r53) rfl) ?_
          refine GL.val trivial rfl (OV.assign (v := .int .i64 r54) rfl) ?_
          refine GL.nil ?_
          refine GC.seq ?_
          refine GC.region ?_
          refine GL.val trivial rfl (OV.move (v := slv r48) rfl) ?_
          refine GL.val trivial rfl (OV.move (v := slv r53) rfl) ?_
          refine GL.call h trivial rfl ok_ref04_Ints (vs := [slv r48, slv r53]) rfl ?_
          rintro _ H57 ⟨r56, rfl, h⟩
          refine GL.val trivial rfl (OV.not rfl) ?_
          refine GL.val trivial rfl (OV.move (v := .bool (!r56)) rfl) ?_
          refine GL.cut0 4 [(123, .bool ((!r56) || ((r49 : Int) != r54))), (1, pv p_t), (2, pv p_x), (3, pv (some (b1, 0))), (7, slv r5)] ?_ ?_
          · rcases Bool.eq_false_or_eq_true (!r56) with hc58 | hc58
            · skip
              refine GL.skip ⟨_, rfl, .inl ⟨_, rfl, hc58⟩⟩ rfl ?_
              refine GL.skip ⟨_, rfl, .inl ⟨_, rfl, hc58⟩⟩ rfl ?_
              refine GL.skip ⟨_, rfl, .inl ⟨_, rfl, hc58⟩⟩ rfl ?_
              refine GL.val trivial rfl (OV.pickT (b := !r56) (v := .bool true) rfl hc58 rfl) ?_
              exact GL.jump0 (fun _ _ h => h) () rfl ⟨(by rw [hc58]; rfl), rfl, rfl, rfl, rfl, trivial⟩
            · skip
              refine GL.val ⟨_, _, rfl, rfl, hc58⟩ rfl (OV.move (v := .int .i64 r49) rfl) ?_
              refine GL.val ⟨_, _, rfl, rfl, hc58⟩ rfl (OV.move (v := .int .i64 r54) rfl) ?_
              refine GL.val ⟨_, _, rfl, rfl, hc58⟩ rfl (OV.ibin (v := .bool ((r49 : Int) != r54)) rfl rfl rfl) ?_
              refine GL.val trivial rfl (OV.pickF (b := !r56) (v := .bool ((r49 : Int) != r54)) rfl hc58 rfl) ?_
              exact GL.jump0 (fun _ _ h => h) () rfl ⟨(by rw [hc58]; rfl), rfl, rfl, rfl, rfl, trivial⟩
          refine GL.nil ?_
          refine GC.cond (b := (!r56) || ((r49 : Int) != r54)) rfl (fun hc59 => ?_) (fun hc59 => ?_)
          · replace h := And.left h hc59
            refine GC.seq ?_
            refine GC.region ?_
            refine GL.val trivial rfl (OV.assign (v := .bool false) rfl) ?_
            refine GL.nil ?_
            exact GC.ret (fun _ _ hf hs => post_tmp1 rfl rfl hf hs ⟨false, rfl, h⟩)
          · replace h := And.right h hc59
            exact GC.jump (fun _ _ h => h) () h ⟨rfl, rfl, rfl, rfl, trivial⟩
        · replace h := And.right h hc47
          refine GC.seq ?_
          refine GC.region ?_
          refine GL.val trivial rfl (OV.ibin (v := .bool ((x32 : Int) == 2)) rfl rfl rfl) ?_
          refine GL.val trivial rfl (OV.assign (v := .bool ((x32 : Int) == 2)) rfl) ?_
          refine GL.nil ?_
          refine GC.cond (b := (x32 : Int) == 2) rfl (fun hc60 => ?_) (fun hc60 => ?_)
          · replace h := And.left h hc60
            refine GC.seq ?_
            refine GC.region ?_
            refine GL.val trivial rfl (OV.move (v := pv p_t) rfl) ?_
            obtain ⟨x61, hr62, h⟩ := h
            refine GL.val trivial rfl (OV.loadT (p := (b13, 0)) (cs := T_api_Value.c x61) rfl rfl rfl hr62) ?_
            refine GL.call h trivial rfl ok_intern_Table_Find (vs := [pv p_t, .agg (T_api_Value.c x61).toArray]) rfl ?_
            rintro _ H65 ⟨r63, r64, rfl, h⟩
            refine GL.val trivial rfl (OV.move (v := .tuple #[.int .i64 r63, .bool r64]) rfl) ?_
            refine GL.val trivial rfl (OV.extract (v := .int .i64 r63) rfl rfl) ?_
            refine GL.val trivial rfl (OV.extract (v := .bool r64) rfl rfl) ?_
            refine GL.val trivial rfl (OV.assign (v := .int .i64 r63) rfl) ?_
            refine GL.val trivial rfl (OV.assign (v := .bool r64) rfl) ?_
            refine GL.nil ?_
            refine GC.seq ?_
            refine GC.region ?_
            refine GL.val trivial rfl (OV.move (v := pv p_x) rfl) ?_
            obtain ⟨x66, hr67, h⟩ := h
            refine GL.val trivial rfl (OV.loadT (p := (b13, 0)) (cs := T_api_Value.c x66) rfl rfl rfl hr67) ?_
            refine GL.call h trivial rfl ok_ref04_Table_Find (vs := [pv p_x, .agg (T_api_Value.c x66).toArray]) rfl ?_
            rintro _ H70 ⟨r68, r69, rfl, h⟩
            refine GL.val trivial rfl (OV.move (v := .tuple #[.int .i64 r68, .bool r69]) rfl) ?_
            refine GL.val trivial rfl (OV.extract (v := .int .i64 r68) rfl rfl) ?_
            refine GL.val trivial rfl (OV.extract (v := .bool r69) rfl rfl) ?_
            refine GL.val trivial rfl (OV.assign (v := .int .i64 r68) rfl) ?_
            refine GL.val trivial rfl (OV.assign (v := .bool r69) rfl) ?_
            refine GL.nil ?_
            refine GC.seq ?_
            refine GC.region ?_
            refine GL.val trivial rfl (OV.move (v := .int .i64 r63) rfl) ?_
            refine GL.val trivial rfl (OV.move (v := .int .i64 r68) rfl) ?_
            refine GL.val trivial rfl (OV.ibin (v := .bool ((r63 : Int) != r68)) rfl rfl rfl) ?_
            refine GL.val trivial rfl (OV.move (v := .bool ((r63 : Int) != r68)) rfl) ?_
            refine GL.cut0 4 [(145, .bool (((r63 : Int) != r68) || (!(r64 == r69)))), (1, pv p_t), (2, pv p_x), (3, pv (some (b1, 0))), (7, slv r5)] ?_ ?_
            · rcases Bool.eq_false_or_eq_true ((r63 : Int) != r68) with hc71 | hc71
              · skip
                refine GL.skip ⟨_, rfl, .inl ⟨_, rfl, hc71⟩⟩ rfl ?_
                refine GL.skip ⟨_, rfl, .inl ⟨_, rfl, hc71⟩⟩ rfl ?_
                refine GL.skip ⟨_, rfl, .inl ⟨_, rfl, hc71⟩⟩ rfl ?_
                refine GL.val trivial rfl (OV.pickT (b := (r63 : Int) != r68) (v := .bool true) rfl hc71 rfl) ?_
                exact GL.jump0 (fun _ _ h => h) () rfl ⟨(by rw [hc71]; rfl), rfl, rfl, rfl, rfl, trivial⟩
              · skip
                refine GL.val ⟨_, _, rfl, rfl, hc71⟩ rfl (OV.move (v := .bool r64) rfl) ?_
                refine GL.val ⟨_, _, rfl, rfl, hc71⟩ rfl (OV.move (v := .bool r69) rfl) ?_
                refine GL.val ⟨_, _, rfl, rfl, hc71⟩ rfl (OV.neqBool rfl rfl rfl) ?_
                refine GL.val trivial rfl (OV.pickF (b := (r63 : Int) != r68) (v := .bool (!(r64 == r69))) rfl hc71 rfl) ?_
                exact GL.jump0 (fun _ _ h => h) () rfl ⟨(by rw [hc71]; rfl), rfl, rfl, rfl, rfl, trivial⟩
            refine GL.nil ?_
            refine GC.cond (b := ((r63 : Int) != r68) || (!(r64 == r69))) rfl (fun hc72 => ?_) (fun hc72 => ?_)
            · replace h := And.left h hc72
              refine GC.seq ?_
              refine GC.region ?_
              refine GL.val trivial rfl (OV.assign (v := .bool false) rfl) ?_
              refine GL.nil ?_
              exact GC.ret (fun _ _ hf hs => post_tmp1 rfl rfl hf hs ⟨false, rfl, h⟩)
            · replace h := And.right h hc72
              exact GC.jump (fun _ _ h => h) () h ⟨rfl, rfl, rfl, rfl, trivial⟩
          · replace h := And.right h hc60
            refine GC.seq ?_
            refine GC.region ?_
            refine GL.val trivial rfl (OV.ibin (v := .bool ((x32 : Int) == 3)) rfl rfl rfl) ?_
            refine GL.val trivial rfl (OV.assign (v := .bool ((x32 : Int) == 3)) rfl) ?_
            refine GL.nil ?_
            refine GC.cond (b := (x32 : Int) == 3) rfl (fun hc73 => ?_) (fun hc73 => ?_)
            · replace h := And.left h hc73
              refine GC.seq ?_
              refine GC.region ?_
              refine GL.val trivial rfl (OV.assign (v := .int .i64 0) rfl) ?_
              refine GL.nil ?_
              obtain ⟨J74, h, hR77⟩ := h
              refine GC.join (α := Int) J74 (fun x75 => [(22, .int .i64 x75), (1, pv p_t), (2, pv p_x), (3, pv (some (b1, 0))), (7, slv r5)]) ?_ ?_
              · skip
                refine GC.seq ?_
                refine GC.region ?_
                refine GL.val trivial rfl (OV.move (v := slv r11) rfl) ?_
                refine GL.val trivial rfl (OV.lenSl (s := r11) rfl rfl) ?_
                refine GL.val trivial rfl (OV.ibin (v := .bool (decide (((Sl.len r11 : Int) : Int) > 0))) rfl rfl rfl) ?_
                refine GL.nil ?_
                refine GC.cond (b := decide (((Sl.len r11 : Int) : Int) > 0)) rfl (fun hc78 => ?_) (fun hc78 => ?_)
                · replace h := And.left h hc78
                  refine GC.region ?_
                  refine GL.val trivial rfl (OV.move (v := slv r11) rfl) ?_
                  obtain ⟨p79, ha80, hb81, hc82, hd83, h⟩ := h
                  refine GL.val trivial rfl (OV.indexAddr (s := r11) rfl rfl rfl rfl ha80 hb81 hc82 hd83) ?_
                  obtain ⟨x84, hr85, h⟩ := h
                  refine GL.val trivial rfl (OV.load (p := (p79.1, p79.2 + (0 : Int).toNat * 1)) rfl rfl hr85) ?_
                  refine GL.val trivial rfl (OV.assign (v := .int .i64 x84) rfl) ?_
                  exact GL.jump (fun _ _ h => h) x84 h ⟨rfl, rfl, rfl, rfl, rfl, trivial⟩
                · replace h := And.right h hc78
                  exact GC.jump (fun _ _ h => h) 0 h ⟨rfl, rfl, rfl, rfl, rfl, trivial⟩
              · intro x75 H76 h
                replace h := hR77 x75 H76 h
                refine GC.seq ?_
                refine GC.region ?_
                refine GL.val trivial rfl (OV.move (v := pv p_t) rfl) ?_
                refine GL.val trivial rfl (OV.move (v := .int .i64 x75) rfl) ?_
                refine GL.call h trivial rfl ok_intern_Table_At (vs := [pv p_t, .int .i64 x75]) rfl ?_
                rintro _ H88 ⟨r86, r87, rfl, h⟩
                refine GL.val trivial rfl (OV.move (v := .tuple #[.agg (T_api_Value.c r86).toArray, .int .i64 r87]) rfl) ?_
                refine GL.val trivial rfl (OV.extract (v := .agg (T_api_Value.c r86).toArray) rfl rfl) ?_
                refine GL.val trivial rfl (OV.extract (v := .int .i64 r87) rfl rfl) ?_
                refine GL.alloc (cs := T_api_Value.c T_api_Value.zero) h trivial rfl rfl rfl ?_
                intro b89 H90 h
                refine GL.storeT (p := (b89, 0)) (vs := T_api_Value.c r86) h trivial rfl rfl rfl rfl ?_
                intro H91 h
                refine GL.val trivial rfl (OV.assign (v := .int .i64 r87) rfl) ?_
                refine GL.nil ?_
                refine GC.seq ?_
                refine GC.region ?_
                refine GL.val trivial rfl (OV.move (v := pv p_x) rfl) ?_
                refine GL.val trivial rfl (OV.move (v := .int .i64 x75) rfl) ?_
                refine GL.buildSlice (cs := [.int .i64 x75]) h trivial rfl (vs := [(0, .int .i64 x75)]) rfl ⟨3, fun _ => by kernel_rfl⟩ ?_
                intro b92 H93 h
                refine GL.call h trivial rfl ok_ref04_Table_Row (vs := [pv p_x, slv (Sl.of (some (b92, 0)) 1 1)]) rfl ?_
                rintro _ H96 ⟨r94, r95, rfl, h⟩
                refine GL.val trivial rfl (OV.move (v := .tuple #[slv r94, .int .i64 r95]) rfl) ?_
                refine GL.val trivial rfl (OV.extract (v := slv r94) rfl rfl) ?_
                refine GL.val trivial rfl (OV.extract (v := .int .i64 r95) rfl rfl) ?_
                refine GL.val trivial rfl (OV.assign (v := slv r94) rfl) ?_
                refine GL.val trivial rfl (OV.assign (v := .int .i64 r95) rfl) ?_
                refine GL.nil ?_
                refine GC.seq ?_
                refine GC.seq ?_
                obtain ⟨J97, h, hR100⟩ := h
                refine GC.meet (α := Bool) J97 (fun x98 => [(191, .bool x98), (1, pv p_t), (2, pv p_x), (3, pv (some (b1, 0))), (7, slv r5), (23, pv (some (b89, 0)))]) ?_ ?_
                · skip
                  obtain ⟨Hs101, hle102, h⟩ := h
                  refine GC.any (Hs := Hs101) (by kernel_rfl) hle102 ?_
                  refine GA.take 0 rfl (by kernel_rfl) (by kernel_rfl) (by kernel_rfl) (fun _ _ _ h => False.elim h) trivial rfl (OV.move (v := .int .i64 r87) rfl) ?_
                  refine GA.take 1 rfl (by kernel_rfl) (by kernel_rfl) (by kernel_rfl) (fun _ _ _ h => False.elim h) trivial rfl (OV.move (v := .int .i64 r95) rfl) ?_
                  refine GA.take 2 rfl (by kernel_rfl) (by kernel_rfl) (by kernel_rfl) (fun _ _ _ h => False.elim h) trivial rfl (OV.ibin (v := .bool ((r87 : Int) != r95)) rfl rfl rfl) ?_
                  refine GA.take 3 rfl (by kernel_rfl) (by kernel_rfl) (by kernel_rfl) (fun _ _ _ h => False.elim h) trivial rfl (OV.move (v := .bool ((r87 : Int) != r95)) rfl) ?_
                  rcases Bool.eq_false_or_eq_true ((r87 : Int) != r95) with hc103 | hc103
                  · replace h := And.left h hc103
                    refine GA.skip 4 rfl (by kernel_rfl) (by kernel_rfl) (by kernel_rfl) (fun _ _ _ h => False.elim h) ⟨_, rfl, .inl ⟨_, rfl, hc103⟩⟩ rfl ?_
                    refine GA.skip 5 rfl (by kernel_rfl) (by kernel_rfl) (by kernel_rfl) (fun _ _ _ h => False.elim h) ⟨_, rfl, .inl ⟨_, rfl, hc103⟩⟩ rfl ?_
                    refine GA.skip 6 rfl (by kernel_rfl) (by kernel_rfl) (by kernel_rfl) (fun _ _ _ h => False.elim h) ⟨_, rfl, .inl ⟨_, rfl, hc103⟩⟩ rfl ?_
                    refine GA.skip 7 rfl (by kernel_rfl) (by kernel_rfl) (by kernel_rfl) (fun _ _ _ h => False.elim h) ⟨_, rfl, .inr rfl⟩ rfl ?_
                    refine GA.skip 8 rfl (by kernel_rfl) (by kernel_rfl) (by kernel_rfl) (fun _ _ _ h => False.elim h) ⟨_, rfl, .inr rfl⟩ rfl ?_
                    refine GA.skip 9 rfl (by kernel_rfl) (by kernel_rfl) (by kernel_rfl) (fun _ _ _ h => False.elim h) ⟨_, rfl, .inr rfl⟩ rfl ?_
                    refine GA.skip 10 rfl (by kernel_rfl) (by kernel_rfl) (by kernel_rfl) (fun _ _ _ h => False.elim h) ⟨_, rfl, .inr rfl⟩ rfl ?_
                    refine GA.skip 11 rfl (by kernel_rfl) (by kernel_rfl) (by kernel_rfl) (fun _ _ _ h => False.elim h) ⟨_, rfl, .inr rfl⟩ rfl ?_
                    refine GA.skip 12 rfl (by kernel_rfl) (by kernel_rfl) (by kernel_rfl) (fun _ _ _ h => False.elim h) ⟨_, rfl, .inr rfl⟩ rfl ?_
                    refine GA.skip 13 rfl (by kernel_rfl) (by kernel_rfl) (by kernel_rfl) (fun _ _ _ h => False.elim h) ⟨_, rfl, .inl ⟨_, rfl, hc103⟩⟩ rfl ?_
                    refine GA.take 14 rfl (by kernel_rfl) (by kernel_rfl) (by kernel_rfl) (fun _ _ _ h => False.elim h) trivial rfl (OV.pickT (b := (r87 : Int) != r95) (v := .bool true) rfl hc103 rfl) ?_
                    refine GA.take 15 rfl (by kernel_rfl) (by kernel_rfl) (by kernel_rfl) (fun _ _ _ h => False.elim h) trivial rfl (OV.move (v := .bool true) rfl) ?_
                    refine GA.skip 16 rfl (by kernel_rfl) (by kernel_rfl) (by kernel_rfl) (fun _ _ _ h => False.elim h) ⟨_, rfl, .inl ⟨_, rfl, rfl⟩⟩ rfl ?_
                    refine GA.skip 17 rfl (by kernel_rfl) (by kernel_rfl) (by kernel_rfl) (fun _ _ _ h => False.elim h) ⟨_, rfl, .inl ⟨_, rfl, rfl⟩⟩ rfl ?_
                    refine GA.skip 18 rfl (by kernel_rfl) (by kernel_rfl) (by kernel_rfl) (fun _ _ _ h => False.elim h) ⟨_, rfl, .inl ⟨_, rfl, rfl⟩⟩ rfl ?_
                    refine GA.skip 19 rfl (by kernel_rfl) (by kernel_rfl) (by kernel_rfl) (fun _ _ _ h => False.elim h) ⟨_, rfl, .inr rfl⟩ rfl ?_
                    refine GA.skip 20 rfl (by kernel_rfl) (by kernel_rfl) (by kernel_rfl) (fun _ _ _ h => False.elim h) ⟨_, rfl, .inr rfl⟩ rfl ?_
                    refine GA.skip 21 rfl (by kernel_rfl) (by kernel_rfl) (by kernel_rfl) (fun _ _ _ h => False.elim h) ⟨_, rfl, .inr rfl⟩ rfl ?_
                    refine GA.skip 22 rfl (by kernel_rfl) (by kernel_rfl) (by kernel_rfl) (fun _ _ _ h => False.elim h) ⟨_, rfl, .inr rfl⟩ rfl ?_
                    refine GA.skip 23 rfl (by kernel_rfl) (by kernel_rfl) (by kernel_rfl) (fun _ _ _ h => False.elim h) ⟨_, rfl, .inl ⟨_, rfl, rfl⟩⟩ rfl ?_
                    refine GA.take 24 rfl (by kernel_rfl) (by kernel_rfl) (by kernel_rfl) (fun _ _ _ h => False.elim h) trivial rfl (OV.pickT (b := true) (v := .bool true) rfl rfl rfl) ?_
                    refine GA.done (by kernel_rfl) ?_
                    exact GL.jump (fun _ _ h => h) true h ⟨rfl, rfl, rfl, rfl, rfl, rfl, trivial⟩
                  · replace h := And.right h hc103
                    refine GA.take 4 rfl (by kernel_rfl) (by kernel_rfl) (by kernel_rfl) (fun _ _ _ h => False.elim h) ⟨_, _, rfl, rfl, hc103⟩ rfl (OV.move (v := .int .i64 r95) rfl) ?_
                    refine GA.take 5 rfl (by kernel_rfl) (by kernel_rfl) (by kernel_rfl) (fun _ _ _ h => False.elim h) ⟨_, _, rfl, rfl, hc103⟩ rfl (OV.ibin (v := .bool ((r95 : Int) == 0)) rfl rfl rfl) ?_
                    refine GA.take 6 rfl (by kernel_rfl) (by kernel_rfl) (by kernel_rfl) (fun _ _ _ h => False.elim h) ⟨_, _, rfl, rfl, hc103⟩ rfl (OV.move (v := .bool ((r95 : Int) == 0)) rfl) ?_
                    rcases Bool.eq_false_or_eq_true ((r95 : Int) == 0) with hc104 | hc104
                    · replace h := And.left h hc104
                      obtain ⟨x105, hr106, h⟩ := h
                      refine GA.take 7 rfl (by kernel_rfl) (by kernel_rfl) (by kernel_rfl) (fun _ _ _ h => False.elim h) ⟨_, _, rfl, rfl, hc104⟩ rfl (OV.loadT (p := (b89, 0)) (cs := T_api_Value.c x105) rfl rfl rfl hr106) ?_
                      refine GA.take 8 rfl (by kernel_rfl) (by kernel_rfl) (by kernel_rfl) (fun _ _ _ h => False.elim h) ⟨_, _, rfl, rfl, hc104⟩ rfl (OV.move (v := slv r94) rfl) ?_
                      obtain ⟨p107, ha108, hb109, hc110, hd111, h⟩ := h
                      refine GA.take 9 rfl (by kernel_rfl) (by kernel_rfl) (by kernel_rfl) (fun _ _ _ h => False.elim h) ⟨_, _, rfl, rfl, hc104⟩ rfl (OV.indexAddr (s := r94) rfl rfl rfl rfl ha108 hb109 hc110 hd111) ?_
                      obtain ⟨x112, hr113, h⟩ := h
                      refine GA.take 10 rfl (by kernel_rfl) (by kernel_rfl) (by kernel_rfl) (fun _ _ _ h => False.elim h) ⟨_, _, rfl, rfl, hc104⟩ rfl (OV.loadT (p := (p107.1, p107.2 + (0 : Int).toNat * 4)) (cs := T_api_Value.c x112) rfl rfl rfl hr113) ?_
                      refine GA.eff 11 rfl (by kernel_rfl) ?_
                      refine GL.call h ⟨_, _, rfl, rfl, hc104⟩ rfl ok_ref02_Same (vs := [.agg (T_api_Value.c x105).toArray, .agg (T_api_Value.c x112).toArray]) rfl ?_
                      rintro _ H116 ⟨r115, rfl, h⟩
                      obtain ⟨hle114, h⟩ := h
                      refine GA.back hle114 ?_
                      refine GA.take 12 rfl (by kernel_rfl) (by kernel_rfl) (by kernel_rfl) (fun _ _ _ h => False.elim h) ⟨_, _, rfl, rfl, hc104⟩ rfl (OV.not rfl) ?_
                      refine GA.take 13 rfl (by kernel_rfl) (by kernel_rfl) (by kernel_rfl) (fun _ _ _ h => False.elim h) ⟨_, _, rfl, rfl, hc103⟩ rfl (OV.pickT (b := (r95 : Int) == 0) (v := .bool (!r115)) rfl hc104 rfl) ?_
                      refine GA.take 14 rfl (by kernel_rfl) (by kernel_rfl) (by kernel_rfl) (fun _ _ _ h => False.elim h) trivial rfl (OV.pickF (b := (r87 : Int) != r95) (v := .bool (!r115)) rfl hc103 rfl) ?_
                      refine GA.take 15 rfl (by kernel_rfl) (by kernel_rfl) (by kernel_rfl) (fun _ _ _ h => False.elim h) trivial rfl (OV.move (v := .bool (!r115)) rfl) ?_
                      rcases Bool.eq_false_or_eq_true (!r115) with hc117 | hc117
                      · replace h := And.left h hc117
                        refine GA.skip 16 rfl (by kernel_rfl) (by kernel_rfl) (by kernel_rfl) (fun _ _ _ h => False.elim h) ⟨_, rfl, .inl ⟨_, rfl, hc117⟩⟩ rfl ?_
                        refine GA.skip 17 rfl (by kernel_rfl) (by kernel_rfl) (by kernel_rfl) (fun _ _ _ h => False.elim h) ⟨_, rfl, .inl ⟨_, rfl, hc117⟩⟩ rfl ?_
                        refine GA.skip 18 rfl (by kernel_rfl) (by kernel_rfl) (by kernel_rfl) (fun _ _ _ h => False.elim h) ⟨_, rfl, .inl ⟨_, rfl, hc117⟩⟩ rfl ?_
                        refine GA.skip 19 rfl (by kernel_rfl) (by kernel_rfl) (by kernel_rfl) (fun _ _ _ h => False.elim h) ⟨_, rfl, .inr rfl⟩ rfl ?_
                        refine GA.skip 20 rfl (by kernel_rfl) (by kernel_rfl) (by kernel_rfl) (fun _ _ _ h => False.elim h) ⟨_, rfl, .inr rfl⟩ rfl ?_
                        refine GA.skip 21 rfl (by kernel_rfl) (by kernel_rfl) (by kernel_rfl) (fun _ _ _ h => False.elim h) ⟨_, rfl, .inr rfl⟩ rfl ?_
                        refine GA.skip 22 rfl (by kernel_rfl) (by kernel_rfl) (by kernel_rfl) (fun _ _ _ h => False.elim h) ⟨_, rfl, .inr rfl⟩ rfl ?_
                        refine GA.skip 23 rfl (by kernel_rfl) (by kernel_rfl) (by kernel_rfl) (fun _ _ _ h => False.elim h) ⟨_, rfl, .inl ⟨_, rfl, hc117⟩⟩ rfl ?_
                        refine GA.take 24 rfl (by kernel_rfl) (by kernel_rfl) (by kernel_rfl) (fun _ _ _ h => False.elim h) trivial rfl (OV.pickT (b := !r115) (v := .bool true) rfl hc117 rfl) ?_
                        refine GA.done (by kernel_rfl) ?_
                        exact GL.jump (fun _ _ h => h) true h ⟨rfl, rfl, rfl, rfl, rfl, rfl, trivial⟩
                      · replace h := And.right h hc117
                        refine GA.take 16 rfl (by kernel_rfl) (by kernel_rfl) (by kernel_rfl) (fun _ _ _ h => False.elim h) ⟨_, _, rfl, rfl, hc117⟩ rfl (OV.move (v := .int .i64 r95) rfl) ?_
                        refine GA.take 17 rfl (by kernel_rfl) (by kernel_rfl) (by kernel_rfl) (fun _ _ _ h => False.elim h) ⟨_, _, rfl, rfl, hc117⟩ rfl (OV.ibin (v := .bool ((r95 : Int) != 0)) rfl rfl rfl) ?_
                        refine GA.take 18 rfl (by kernel_rfl) (by kernel_rfl) (by kernel_rfl) (fun _ _ _ h => False.elim h) ⟨_, _, rfl, rfl, hc117⟩ rfl (OV.move (v := .bool ((r95 : Int) != 0)) rfl) ?_
                        rcases Bool.eq_false_or_eq_true ((r95 : Int) != 0) with hc118 | hc118
                        · replace h := And.left h hc118
                          obtain ⟨x119, hr120, h⟩ := h
                          refine GA.take 19 rfl (by kernel_rfl) (by kernel_rfl) (by kernel_rfl) (fun _ _ _ h => False.elim h) ⟨_, _, rfl, rfl, hc118⟩ rfl (OV.loadT (p := (b89, 0)) (cs := T_api_Value.c x119) rfl rfl rfl hr120) ?_
                          refine GA.take 20 rfl (by kernel_rfl) (by kernel_rfl) (by kernel_rfl) (fun _ _ _ h => False.elim h) ⟨_, _, rfl, rfl, hc118⟩ rfl (OV.build (vs := []) (v := .agg (T_api_Value.c (⟨0, 0, [], Sl.nil⟩ : T_api_Value)).toArray) rfl (fun _ => by kernel_rfl)) ?_
                          refine GA.eff 21 rfl (by kernel_rfl) ?_
                          refine GL.call h ⟨_, _, rfl, rfl, hc118⟩ rfl ok_ref02_Same (vs := [.agg (T_api_Value.c x119).toArray, .agg (T_api_Value.c (⟨0, 0, [], Sl.nil⟩ : T_api_Value)).toArray]) rfl ?_
                          rintro _ H123 ⟨r122, rfl, h⟩
                          obtain ⟨hle121, h⟩ := h
                          refine GA.back hle121 ?_
                          refine GA.take 22 rfl (by kernel_rfl) (by kernel_rfl) (by kernel_rfl) (fun _ _ _ h => False.elim h) ⟨_, _, rfl, rfl, hc118⟩ rfl (OV.not rfl) ?_
                          refine GA.take 23 rfl (by kernel_rfl) (by kernel_rfl) (by kernel_rfl) (fun _ _ _ h => False.elim h) ⟨_, _, rfl, rfl, hc117⟩ rfl (OV.pickT (b := (r95 : Int) != 0) (v := .bool (!r122)) rfl hc118 rfl) ?_
                          refine GA.take 24 rfl (by kernel_rfl) (by kernel_rfl) (by kernel_rfl) (fun _ _ _ h => False.elim h) trivial rfl (OV.pickF (b := !r115) (v := .bool (!r122)) rfl hc117 rfl) ?_
                          refine GA.done (by kernel_rfl) ?_
                          exact GL.jump (fun _ _ h => h) (!r122) h ⟨rfl, rfl, rfl, rfl, rfl, rfl, trivial⟩
                        · replace h := And.right h hc118
                          refine GA.skip 19 rfl (by kernel_rfl) (by kernel_rfl) (by kernel_rfl) (fun _ _ _ h => False.elim h) ⟨_, rfl, .inl ⟨_, rfl, hc118⟩⟩ rfl ?_
                          refine GA.skip 20 rfl (by kernel_rfl) (by kernel_rfl) (by kernel_rfl) (fun _ _ _ h => False.elim h) ⟨_, rfl, .inl ⟨_, rfl, hc118⟩⟩ rfl ?_
                          refine GA.skip 21 rfl (by kernel_rfl) (by kernel_rfl) (by kernel_rfl) (fun _ _ _ h => False.elim h) ⟨_, rfl, .inl ⟨_, rfl, hc118⟩⟩ rfl ?_
                          refine GA.skip 22 rfl (by kernel_rfl) (by kernel_rfl) (by kernel_rfl) (fun _ _ _ h => False.elim h) ⟨_, rfl, .inl ⟨_, rfl, hc118⟩⟩ rfl ?_
                          refine GA.take 23 rfl (by kernel_rfl) (by kernel_rfl) (by kernel_rfl) (fun _ _ _ h => False.elim h) ⟨_, _, rfl, rfl, hc117⟩ rfl (OV.pickF (b := (r95 : Int) != 0) (v := .bool false) rfl hc118 rfl) ?_
                          refine GA.take 24 rfl (by kernel_rfl) (by kernel_rfl) (by kernel_rfl) (fun _ _ _ h => False.elim h) trivial rfl (OV.pickF (b := !r115) (v := .bool false) rfl hc117 rfl) ?_
                          refine GA.done (by kernel_rfl) ?_
                          exact GL.jump (fun _ _ h => h) false h ⟨rfl, rfl, rfl, rfl, rfl, rfl, trivial⟩
                    · replace h := And.right h hc104
                      refine GA.skip 7 rfl (by kernel_rfl) (by kernel_rfl) (by kernel_rfl) (fun _ _ _ h => False.elim h) ⟨_, rfl, .inl ⟨_, rfl, hc104⟩⟩ rfl ?_
                      refine GA.skip 8 rfl (by kernel_rfl) (by kernel_rfl) (by kernel_rfl) (fun _ _ _ h => False.elim h) ⟨_, rfl, .inl ⟨_, rfl, hc104⟩⟩ rfl ?_
                      refine GA.skip 9 rfl (by kernel_rfl) (by kernel_rfl) (by kernel_rfl) (fun _ _ _ h => False.elim h) ⟨_, rfl, .inl ⟨_, rfl, hc104⟩⟩ rfl ?_
                      refine GA.skip 10 rfl (by kernel_rfl) (by kernel_rfl) (by kernel_rfl) (fun _ _ _ h => False.elim h) ⟨_, rfl, .inl ⟨_, rfl, hc104⟩⟩ rfl ?_
                      refine GA.skip 11 rfl (by kernel_rfl) (by kernel_rfl) (by kernel_rfl) (fun _ _ _ h => False.elim h) ⟨_, rfl, .inl ⟨_, rfl, hc104⟩⟩ rfl ?_
                      refine GA.skip 12 rfl (by kernel_rfl) (by kernel_rfl) (by kernel_rfl) (fun _ _ _ h => False.elim h) ⟨_, rfl, .inl ⟨_, rfl, hc104⟩⟩ rfl ?_
                      refine GA.take 13 rfl (by kernel_rfl) (by kernel_rfl) (by kernel_rfl) (fun _ _ _ h => False.elim h) ⟨_, _, rfl, rfl, hc103⟩ rfl (OV.pickF (b := (r95 : Int) == 0) (v := .bool false) rfl hc104 rfl) ?_
                      refine GA.take 14 rfl (by kernel_rfl) (by kernel_rfl) (by kernel_rfl) (fun _ _ _ h => False.elim h) trivial rfl (OV.pickF (b := (r87 : Int) != r95) (v := .bool false) rfl hc103 rfl) ?_
                      refine GA.take 15 rfl (by kernel_rfl) (by kernel_rfl) (by kernel_rfl) (fun _ _ _ h => False.elim h) trivial rfl (OV.move (v := .bool false) rfl) ?_
                      refine GA.take 16 rfl (by kernel_rfl) (by kernel_rfl) (by kernel_rfl) (fun _ _ _ h => False.elim h) ⟨_, _, rfl, rfl, rfl⟩ rfl (OV.move (v := .int .i64 r95) rfl) ?_
                      refine GA.take 17 rfl (by kernel_rfl) (by kernel_rfl) (by kernel_rfl) (fun _ _ _ h => False.elim h) ⟨_, _, rfl, rfl, rfl⟩ rfl (OV.ibin (v := .bool ((r95 : Int) != 0)) rfl rfl rfl) ?_
                      refine GA.take 18 rfl (by kernel_rfl) (by kernel_rfl) (by kernel_rfl) (fun _ _ _ h => False.elim h) ⟨_, _, rfl, rfl, rfl⟩ rfl (OV.move (v := .bool ((r95 : Int) != 0)) rfl) ?_
                      rcases Bool.eq_false_or_eq_true ((r95 : Int) != 0) with hc124 | hc124
                      · replace h := And.left h hc124
                        obtain ⟨x125, hr126, h⟩ := h
                        refine GA.take 19 rfl (by kernel_rfl) (by kernel_rfl) (by kernel_rfl) (fun _ _ _ h => False.elim h) ⟨_, _, rfl, rfl, hc124⟩ rfl (OV.loadT (p := (b89, 0)) (cs := T_api_Value.c x125) rfl rfl rfl hr126) ?_
                        refine GA.take 20 rfl (by kernel_rfl) (by kernel_rfl) (by kernel_rfl) (fun _ _ _ h => False.elim h) ⟨_, _, rfl, rfl, hc124⟩ rfl (OV.build (vs := []) (v := .agg (T_api_Value.c (⟨0, 0, [], Sl.nil⟩ : T_api_Value)).toArray) rfl (fun _ => by kernel_rfl)) ?_
                        refine GA.eff 21 rfl (by kernel_rfl) ?_
                        refine GL.call h ⟨_, _, rfl, rfl, hc124⟩ rfl ok_ref02_Same (vs := [.agg (T_api_Value.c x125).toArray, .agg (T_api_Value.c (⟨0, 0, [], Sl.nil⟩ : T_api_Value)).toArray]) rfl ?_
                        rintro _ H129 ⟨r128, rfl, h⟩
                        obtain ⟨hle127, h⟩ := h
                        refine GA.back hle127 ?_
                        refine GA.take 22 rfl (by kernel_rfl) (by kernel_rfl) (by kernel_rfl) (fun _ _ _ h => False.elim h) ⟨_, _, rfl, rfl, hc124⟩ rfl (OV.not rfl) ?_
                        refine GA.take 23 rfl (by kernel_rfl) (by kernel_rfl) (by kernel_rfl) (fun _ _ _ h => False.elim h) ⟨_, _, rfl, rfl, rfl⟩ rfl (OV.pickT (b := (r95 : Int) != 0) (v := .bool (!r128)) rfl hc124 rfl) ?_
                        refine GA.take 24 rfl (by kernel_rfl) (by kernel_rfl) (by kernel_rfl) (fun _ _ _ h => False.elim h) trivial rfl (OV.pickF (b := false) (v := .bool (!r128)) rfl rfl rfl) ?_
                        refine GA.done (by kernel_rfl) ?_
                        exact GL.jump (fun _ _ h => h) (!r128) h ⟨rfl, rfl, rfl, rfl, rfl, rfl, trivial⟩
                      · replace h := And.right h hc124
                        refine GA.skip 19 rfl (by kernel_rfl) (by kernel_rfl) (by kernel_rfl) (fun _ _ _ h => False.elim h) ⟨_, rfl, .inl ⟨_, rfl, hc124⟩⟩ rfl ?_
                        refine GA.skip 20 rfl (by kernel_rfl) (by kernel_rfl) (by kernel_rfl) (fun _ _ _ h => False.elim h) ⟨_, rfl, .inl ⟨_, rfl, hc124⟩⟩ rfl ?_
                        refine GA.skip 21 rfl (by kernel_rfl) (by kernel_rfl) (by kernel_rfl) (fun _ _ _ h => False.elim h) ⟨_, rfl, .inl ⟨_, rfl, hc124⟩⟩ rfl ?_
                        refine GA.skip 22 rfl (by kernel_rfl) (by kernel_rfl) (by kernel_rfl) (fun _ _ _ h => False.elim h) ⟨_, rfl, .inl ⟨_, rfl, hc124⟩⟩ rfl ?_
                        refine GA.take 23 rfl (by kernel_rfl) (by kernel_rfl) (by kernel_rfl) (fun _ _ _ h => False.elim h) ⟨_, _, rfl, rfl, rfl⟩ rfl (OV.pickF (b := (r95 : Int) != 0) (v := .bool false) rfl hc124 rfl) ?_
                        refine GA.take 24 rfl (by kernel_rfl) (by kernel_rfl) (by kernel_rfl) (fun _ _ _ h => False.elim h) trivial rfl (OV.pickF (b := false) (v := .bool false) rfl rfl rfl) ?_
                        refine GA.done (by kernel_rfl) ?_
                        exact GL.jump (fun _ _ h => h) false h ⟨rfl, rfl, rfl, rfl, rfl, rfl, trivial⟩
                · intro x98 H99 h
                  replace h := hR100 x98 H99 h
                  refine GL.nil ?_
                  refine GC.cond (b := x98) rfl (fun hc130 => ?_) (fun hc130 => ?_)
                  · replace h := And.left h hc130
                    refine GC.seq ?_
                    refine GC.region ?_
                    refine GL.val trivial rfl (OV.assign (v := .bool false) rfl) ?_
                    refine GL.nil ?_
                    exact GC.ret (fun _ _ hf hs => post_tmp1 rfl rfl hf hs ⟨false, rfl, h⟩)
                  · replace h := And.right h hc130
                    refine GC.skip ?_
                    refine GC.region ?_
                    refine GL.val trivial rfl (OV.fieldAddr (p := (b89, 0)) rfl rfl) ?_
                    obtain ⟨x131, hr132, h⟩ := h
                    refine GL.val trivial rfl (OV.load (p := ((b89, 0).1, (b89, 0).2 + 3)) rfl rfl hr132) ?_
                    refine GL.call h trivial rfl ok_law04_spoil (vs := [slv x131]) rfl ?_
                    rintro _ H133 ⟨rfl, h⟩
                    exact GL.jump (fun _ _ h => h) () h ⟨rfl, rfl, rfl, rfl, trivial⟩
            · replace h := And.right h hc73
              refine GC.seq ?_
              refine GC.region ?_
              refine GL.val trivial rfl (OV.move (v := pv p_t) rfl) ?_
              refine GL.val trivial rfl (OV.move (v := slv r11) rfl) ?_
              refine GL.call h trivial rfl ok_intern_Table_Row (vs := [pv p_t, slv r11]) rfl ?_
              rintro _ H136 ⟨r134, r135, rfl, h⟩
              refine GL.val trivial rfl (OV.move (v := .tuple #[slv r134, .int .i64 r135]) rfl) ?_
              refine GL.val trivial rfl (OV.extract (v := slv r134) rfl rfl) ?_
              refine GL.val trivial rfl (OV.extract (v := .int .i64 r135) rfl rfl) ?_
              refine GL.val trivial rfl (OV.assign (v := slv r134) rfl) ?_
              refine GL.val trivial rfl (OV.assign (v := .int .i64 r135) rfl) ?_
              refine GL.nil ?_
              refine GC.seq ?_
              refine GC.region ?_
              refine GL.val trivial rfl (OV.move (v := pv p_x) rfl) ?_
              refine GL.val trivial rfl (OV.fieldAddr (p := (b1, 0)) rfl rfl) ?_
              obtain ⟨x137, hr138, h⟩ := h
              refine GL.val trivial rfl (OV.load (p := ((b1, 0).1, (b1, 0).2 + 2)) rfl rfl hr138) ?_
              refine GL.call h trivial rfl ok_ref04_Table_Row (vs := [pv p_x, slv x137]) rfl ?_
              rintro _ H141 ⟨r139, r140, rfl, h⟩
              refine GL.val trivial rfl (OV.move (v := .tuple #[slv r139, .int .i64 r140]) rfl) ?_
              refine GL.val trivial rfl (OV.extract (v := slv r139) rfl rfl) ?_
              refine GL.val trivial rfl (OV.extract (v := .int .i64 r140) rfl rfl) ?_
              refine GL.val trivial rfl (OV.assign (v := slv r139) rfl) ?_
              refine GL.val trivial rfl (OV.assign (v := .int .i64 r140) rfl) ?_
              refine GL.nil ?_
              refine GC.seq ?_
              refine GC.seq ?_
              refine GC.region ?_
              refine GL.val trivial rfl (OV.move (v := .int .i64 r135) rfl) ?_
              refine GL.val trivial rfl (OV.move (v := .int .i64 r140) rfl) ?_
              refine GL.val trivial rfl (OV.ibin (v := .bool ((r135 : Int) != r140)) rfl rfl rfl) ?_
              refine GL.val trivial rfl (OV.move (v := .bool ((r135 : Int) != r140)) rfl) ?_
              obtain ⟨J143, h, hR144⟩ := h
              refine GL.cut (α := Bool) 5 J143 (fun b142 => [(68, .bool b142), (1, pv p_t), (2, pv p_x), (3, pv (some (b1, 0))), (7, slv r5), (8, slv r11), (27, slv r134)]) ?_ ?_
              · rcases Bool.eq_false_or_eq_true ((r135 : Int) != r140) with hc145 | hc145
                · skip
                  replace h := And.left h hc145
                  refine GL.skip ⟨_, rfl, .inl ⟨_, rfl, hc145⟩⟩ rfl ?_
                  refine GL.skip ⟨_, rfl, .inl ⟨_, rfl, hc145⟩⟩ rfl ?_
                  refine GL.skip ⟨_, rfl, .inl ⟨_, rfl, hc145⟩⟩ rfl ?_
                  refine GL.skip ⟨_, rfl, .inl ⟨_, rfl, hc145⟩⟩ rfl ?_
                  refine GL.val trivial rfl (OV.pickT (b := (r135 : Int) != r140) (v := .bool true) rfl hc145 rfl) ?_
                  exact GL.jump (fun _ _ h => h) true h ⟨rfl, rfl, rfl, rfl, rfl, rfl, rfl, trivial⟩
                · skip
                  replace h := And.right h hc145
                  refine GL.val ⟨_, _, rfl, rfl, hc145⟩ rfl (OV.move (v := slv r134) rfl) ?_
                  refine GL.val ⟨_, _, rfl, rfl, hc145⟩ rfl (OV.move (v := slv r139) rfl) ?_
                  refine GL.call h ⟨_, _, rfl, rfl, hc145⟩ rfl ok_ref02_SameRow (vs := [slv r134, slv r139]) rfl ?_
                  rintro _ H147 ⟨r146, rfl, h⟩
                  refine GL.val ⟨_, _, rfl, rfl, hc145⟩ rfl (OV.not rfl) ?_
                  refine GL.val trivial rfl (OV.pickF (b := (r135 : Int) != r140) (v := .bool (!r146)) rfl hc145 rfl) ?_
                  exact GL.jump (fun _ _ h => h) (!r146) h ⟨rfl, rfl, rfl, rfl, rfl, rfl, rfl, trivial⟩
              intro b142 H148 h
              replace h := hR144 b142 H148 h
              refine GL.val trivial rfl (OV.move (v := .bool b142) rfl) ?_
              obtain ⟨J150, h, hR151⟩ := h
              refine GL.cut (α := Bool) 6 J150 (fun b149 => [(75, .bool b149), (1, pv p_t), (2, pv p_x), (3, pv (some (b1, 0))), (7, slv r5), (27, slv r134)]) ?_ ?_
              · rcases Bool.eq_false_or_eq_true b142 with hc152 | hc152
                · skip
                  replace h := And.left h hc152
                  refine GL.skip ⟨_, rfl, .inl ⟨_, rfl, hc152⟩⟩ rfl ?_
                  refine GL.skip ⟨_, rfl, .inl ⟨_, rfl, hc152⟩⟩ rfl ?_
                  refine GL.skip ⟨_, rfl, .inl ⟨_, rfl, hc152⟩⟩ rfl ?_
                  refine GL.skip ⟨_, rfl, .inl ⟨_, rfl, hc152⟩⟩ rfl ?_
                  refine GL.skip ⟨_, rfl, .inl ⟨_, rfl, hc152⟩⟩ rfl ?_
                  refine GL.val trivial rfl (OV.pickT (b := b142) (v := .bool true) rfl hc152 rfl) ?_
                  exact GL.jump (fun _ _ h => h) true h ⟨rfl, rfl, rfl, rfl, rfl, rfl, trivial⟩
                · skip
                  replace h := And.right h hc152
                  refine GL.val ⟨_, _, rfl, rfl, hc152⟩ rfl (OV.move (v := slv r11) rfl) ?_
                  refine GL.val ⟨_, _, rfl, rfl, hc152⟩ rfl (OV.fieldAddr (p := (b1, 0)) rfl rfl) ?_
                  obtain ⟨x153, hr154, h⟩ := h
                  refine GL.val ⟨_, _, rfl, rfl, hc152⟩ rfl (OV.load (p := ((b1, 0).1, (b1, 0).2 + 2)) rfl rfl hr154) ?_
                  refine GL.call h ⟨_, _, rfl, rfl, hc152⟩ rfl ok_ref04_Ints (vs := [slv r11, slv x153]) rfl ?_
                  rintro _ H156 ⟨r155, rfl, h⟩
                  refine GL.val ⟨_, _, rfl, rfl, hc152⟩ rfl (OV.not rfl) ?_
                  refine GL.val trivial rfl (OV.pickF (b := b142) (v := .bool (!r155)) rfl hc152 rfl) ?_
                  exact GL.jump (fun _ _ h => h) (!r155) h ⟨rfl, rfl, rfl, rfl, rfl, rfl, trivial⟩
              intro b149 H157 h
              replace h := hR151 b149 H157 h
              refine GL.nil ?_
              refine GC.cond (b := b149) rfl (fun hc158 => ?_) (fun hc158 => ?_)
              · replace h := And.left h hc158
                refine GC.seq ?_
                refine GC.region ?_
                refine GL.val trivial rfl (OV.assign (v := .bool false) rfl) ?_
                refine GL.nil ?_
                exact GC.ret (fun _ _ hf hs => post_tmp1 rfl rfl hf hs ⟨false, rfl, h⟩)
              · replace h := And.right h hc158
                refine GC.skip ?_
                refine GC.region ?_
                refine GL.val trivial rfl (OV.move (v := slv r134) rfl) ?_
                refine GL.call h trivial rfl ok_law04_spoil (vs := [slv r134]) rfl ?_
                rintro _ H159 ⟨rfl, h⟩
                exact GL.jump (fun _ _ h => h) () h ⟨rfl, rfl, rfl, rfl, trivial⟩
    · intro x29 H30 h
      replace h := hR31 x29 H30 h
      refine GC.seq ?_
      refine GC.region ?_
      refine GL.val trivial rfl (OV.move (v := slv r5) rfl) ?_
      refine GL.val trivial rfl (OV.fieldAddr (p := (b1, 0)) rfl rfl) ?_
      obtain ⟨x160, hr161, h⟩ := h
      refine GL.val trivial rfl (OV.load (p := ((b1, 0).1, (b1, 0).2 + 1)) rfl rfl hr161) ?_
      refine GL.call h trivial rfl ok_ref02_SameRow (vs := [slv r5, slv x160]) rfl ?_
      rintro _ H163 ⟨r162, rfl, h⟩
      refine GL.val trivial rfl (OV.assign (v := .bool r162) rfl) ?_
      refine GL.nil ?_
      refine GC.seq ?_
      refine GC.region ?_
      refine GL.val trivial rfl (OV.move (v := slv r5) rfl) ?_
      refine GL.call h trivial rfl ok_law04_spoil (vs := [slv r5]) rfl ?_
      rintro _ H164 ⟨rfl, h⟩
      refine GL.nil ?_
      refine GC.seq ?_
      obtain ⟨Hs165, hle166, h⟩ := h
      refine GC.any (Hs := Hs165) (by kernel_rfl) hle166 ?_
      refine GA.take 0 rfl (by kernel_rfl) (by kernel_rfl) (by kernel_rfl) (fun _ _ _ h => False.elim h) trivial rfl (OV.move (v := .bool r162) rfl) ?_
      refine GA.take 1 rfl (by kernel_rfl) (by kernel_rfl) (by kernel_rfl) (fun _ _ _ h => False.elim h) trivial rfl (OV.move (v := .bool r162) rfl) ?_
      rcases Bool.eq_false_or_eq_true r162 with hc167 | hc167
      · replace h := And.left h hc167
        refine GA.take 2 rfl (by kernel_rfl) (by kernel_rfl) (by kernel_rfl) (fun _ _ _ h => False.elim h) ⟨_, _, rfl, rfl, hc167⟩ rfl (OV.move (v := pv p_t) rfl) ?_
        refine GA.take 4 rfl (by kernel_rfl) (by kernel_rfl) (by kernel_rfl) (fun _ _ _ h => False.elim h) ⟨_, _, rfl, rfl, hc167⟩ rfl (OV.move (v := pv p_x) rfl) ?_
        obtain ⟨p168, hp169, h⟩ := h
        refine GA.take 5 rfl (by kernel_rfl) (by kernel_rfl) (by kernel_rfl) (fun _ _ _ h => False.elim h) ⟨_, _, rfl, rfl, hc167⟩ rfl (OV.nilCheck (q := p_x) rfl hp169) ?_
        refine GA.take 6 rfl (by kernel_rfl) (by kernel_rfl) (by kernel_rfl) (fun _ _ _ h => False.elim h) ⟨_, _, rfl, rfl, hc167⟩ rfl (OV.fieldAddr (p := p168) rfl rfl) ?_
        obtain ⟨x170, hr171, h⟩ := h
        refine GA.take 7 rfl (by kernel_rfl) (by kernel_rfl) (by kernel_rfl) (fun _ _ _ h => False.elim h) ⟨_, _, rfl, rfl, hc167⟩ rfl (OV.load (p := (p168.1, p168.2 + 0)) rfl rfl hr171) ?_
        refine GA.take 8 rfl (by kernel_rfl) (by kernel_rfl) (by kernel_rfl) (fun _ _ _ h => False.elim h) ⟨_, _, rfl, rfl, hc167⟩ rfl (OV.lenSl (s := x170) rfl rfl) ?_
        refine GA.eff 3 rfl (by kernel_rfl) ?_
        refine GL.call h ⟨_, _, rfl, rfl, hc167⟩ rfl ok_intern_Table_Len (vs := [pv p_t]) rfl ?_
        rintro _ H174 ⟨r173, rfl, h⟩
        obtain ⟨hle172, h⟩ := h
        refine GA.back hle172 ?_
        refine GA.take 9 rfl (by kernel_rfl) (by kernel_rfl) (by kernel_rfl) (fun _ _ _ h => False.elim h) ⟨_, _, rfl, rfl, hc167⟩ rfl (OV.ibin (v := .bool ((r173 : Int) == (Sl.len x170 : Int))) rfl rfl rfl) ?_
        refine GA.take 10 rfl (by kernel_rfl) (by kernel_rfl) (by kernel_rfl) (fun _ _ _ h => False.elim h) trivial rfl (OV.pickT (b := r162) (v := .bool ((r173 : Int) == (Sl.len x170 : Int))) rfl hc167 rfl) ?_
        refine GA.take 11 rfl (by kernel_rfl) (by kernel_rfl) (by kernel_rfl) (fun _ _ _ h => False.elim h) trivial rfl (OV.assign (v := .bool ((r173 : Int) == (Sl.len x170 : Int))) rfl) ?_
        refine GA.done (by kernel_rfl) ?_
        refine GL.nil ?_
        exact GC.ret (fun _ _ hf hs => post_tmp1 rfl rfl hf hs ⟨((r173 : Int) == (Sl.len x170 : Int)), rfl, h⟩)
      · replace h := And.right h hc167
        refine GA.skip 2 rfl (by kernel_rfl) (by kernel_rfl) (by kernel_rfl) (fun _ _ _ h => False.elim h) ⟨_, rfl, .inl ⟨_, rfl, hc167⟩⟩ rfl ?_
        refine GA.skip 3 rfl (by kernel_rfl) (by kernel_rfl) (by kernel_rfl) (fun _ _ _ h => False.elim h) ⟨_, rfl, .inl ⟨_, rfl, hc167⟩⟩ rfl ?_
        refine GA.skip 4 rfl (by kernel_rfl) (by kernel_rfl) (by kernel_rfl) (fun _ _ _ h => False.elim h) ⟨_, rfl, .inl ⟨_, rfl, hc167⟩⟩ rfl ?_
        refine GA.skip 5 rfl (by kernel_rfl) (by kernel_rfl) (by kernel_rfl) (fun _ _ _ h => False.elim h) ⟨_, rfl, .inl ⟨_, rfl, hc167⟩⟩ rfl ?_
        refine GA.skip 6 rfl (by kernel_rfl) (by kernel_rfl) (by kernel_rfl) (fun _ _ _ h => False.elim h) ⟨_, rfl, .inl ⟨_, rfl, hc167⟩⟩ rfl ?_
        refine GA.skip 7 rfl (by kernel_rfl) (by kernel_rfl) (by kernel_rfl) (fun _ _ _ h => False.elim h) ⟨_, rfl, .inl ⟨_, rfl, hc167⟩⟩ rfl ?_
        refine GA.skip 8 rfl (by kernel_rfl) (by kernel_rfl) (by kernel_rfl) (fun _ _ _ h => False.elim h) ⟨_, rfl, .inl ⟨_, rfl, hc167⟩⟩ rfl ?_
        refine GA.skip 9 rfl (by kernel_rfl) (by kernel_rfl) (by kernel_rfl) (fun _ _ _ h => False.elim h) ⟨_, rfl, .inl ⟨_, rfl, hc167⟩⟩ rfl ?_
        refine GA.take 10 rfl (by kernel_rfl) (by kernel_rfl) (by kernel_rfl) (fun _ _ _ h => False.elim h) trivial rfl (OV.pickF (b := r162) (v := .bool false) rfl hc167 rfl) ?_
        refine GA.take 11 rfl (by kernel_rfl) (by kernel_rfl) (by kernel_rfl) (fun _ _ _ h => False.elim h) trivial rfl (OV.assign (v := .bool false) rfl) ?_
        refine GA.done (by kernel_rfl) ?_
        refine GL.nil ?_
        exact GC.ret (fun _ _ hf hs => post_tmp1 rfl rfl hf hs ⟨false, rfl, h⟩)

def sh_intern_Table_Row (C : Ctx) (p_t : Option (Nat × Nat)) (p_l : Sl) (K : Sl → Int → Heap → Prop) (H : Heap) : Prop :=
  ift (Option.isNone p_t)
 (K Sl.nil 2 H)
 (lp (α := Sl × Int) (Sl.nil, 0) H (fun x2 J3 H4 =>
 ift (decide ((x2.2 : Int) < (Sl.len p_l : Int)))
 (ixa p_l x2.2 fun p6 =>
 ldI H4 .i64 (p6.1, p6.2 + (x2.2 : Int).toNat * 1) fun x11 =>
 jn (α := Bool) (fun b13 H21 =>
 ift b13
 (K Sl.nil 5 H21)
 (nck p_t fun p23 =>
 ldL H21 (p23.1, p23.2 + 0) fun x25 =>
 slL x25 x11 (w .i64 (x11 + 1)) (Sl.cap x25 : Int) 4 fun t27 =>
 c_intern_own C t27 (fun r33 H34 =>
 apS (T_api_Value.c T_api_Value.zero) 56 x2.1 r33 (fun r35 H36 =>
 J3 (r35, (w .i64 (x2.2 + 1))) H36) H34) H21))
 (fun J14 => ift (decide ((x11 : Int) < 0))
 (J14 true H4)
 (nck p_t fun p17 =>
 ldL H4 (p17.1, p17.2 + 0) fun x19 =>
 J14 (decide ((x11 : Int) ≥ (Sl.len x19 : Int))) H4)))
 (K x2.1 0 H4)))

theorem ad_intern_Table_Row (C : Ctx) (p_t : Option (Nat × Nat)) (p_l : Sl) (K : Sl → Int → Heap → Prop) (H : Heap) (h : sh_intern_Table_Row C p_t p_l K H) : c_intern_Table_Row C p_t p_l K H := by
  refine Spec.enter Tryd.func9 rfl Tryd.ntmps9 rfl ?_
  refine GC.sub [(0, pv p_t), (1, slv p_l)] ⟨rfl, rfl, trivial⟩ ?_
  refine GC.seq ?_
  refine GC.region ?_
  refine GL.val trivial rfl (OV.assign (v := slv Sl.nil) rfl) ?_
  refine GL.val trivial rfl (OV.assign (v := .int .i64 0) rfl) ?_
  refine GL.nil ?_
  refine GC.seq ?_
  refine GC.seq ?_
  refine GC.region ?_
  refine GL.val trivial rfl (OV.move (v := pv p_t) rfl) ?_
  refine GL.val trivial rfl (OV.eqlNil (p := p_t) rfl rfl rfl) ?_
  refine GL.nil ?_
  refine GC.cond (b := Option.isNone p_t) rfl (fun hc1 => ?_) (fun hc1 => ?_)
  · replace h := And.left h hc1
    refine GC.seq ?_
    refine GC.region ?_
    refine GL.val trivial rfl (OV.assign (v := slv Sl.nil) rfl) ?_
    refine GL.val trivial rfl (OV.assign (v := .int .i64 2) rfl) ?_
    refine GL.nil ?_
    exact GC.ret (fun _ _ hf hs => post_tmp2 rfl rfl rfl hf hs ⟨Sl.nil, 2, rfl, h⟩)
  · replace h := And.right h hc1
    refine GC.skip ?_
    refine GC.seq ?_
    refine GC.region ?_
    refine GL.val trivial rfl (OV.assign (v := slv Sl.nil) rfl) ?_
    refine GL.nil ?_
    refine GC.seq ?_
    refine GC.seq ?_
    refine GC.region ?_
    refine GL.val trivial rfl (OV.move (v := slv p_l) rfl) ?_
    refine GL.val trivial rfl (OV.lenSl (s := p_l) rfl rfl) ?_
    refine GL.val trivial rfl (OV.move (v := .int .i64 0) rfl) ?_
    refine GL.nil ?_
    refine GC.block ?_
    refine GC.loop (α := Sl × Int) h (fun x2 => [(6, slv x2.1), (13, .int .i64 x2.2), (0, pv p_t), (11, slv p_l), (12, .int .i64 (Sl.len p_l : Int))]) ⟨rfl, rfl, rfl, rfl, rfl, trivial⟩ ?_
    intro x2 H4 J3 h
    refine GC.seq ?_
    refine GC.region ?_
    refine GL.val trivial rfl (OV.ibin (v := .bool (decide ((x2.2 : Int) < (Sl.len p_l : Int)))) rfl rfl rfl) ?_
    refine GL.nil ?_
    refine GC.seq ?_
    refine GC.cond (b := decide ((x2.2 : Int) < (Sl.len p_l : Int))) rfl (fun hc5 => ?_) (fun hc5 => ?_)
    · replace h := And.left h hc5
      refine GC.skip ?_
      refine GC.seq ?_
      refine GC.block ?_
      refine GC.seq ?_
      refine GC.region ?_
      obtain ⟨p6, ha7, hb8, hc9, hd10, h⟩ := h
      refine GL.val trivial rfl (OV.indexAddr (s := p_l) rfl rfl rfl rfl ha7 hb8 hc9 hd10) ?_
      obtain ⟨x11, hr12, h⟩ := h
      refine GL.val trivial rfl (OV.load (p := (p6.1, p6.2 + (x2.2 : Int).toNat * 1)) rfl rfl hr12) ?_
      refine GL.val trivial rfl (OV.assign (v := .int .i64 x11) rfl) ?_
      refine GL.nil ?_
      refine GC.seq ?_
      refine GC.seq ?_
      refine GC.region ?_
      refine GL.val trivial rfl (OV.move (v := .int .i64 x11) rfl) ?_
      refine GL.val trivial rfl (OV.ibin (v := .bool (decide ((x11 : Int) < 0))) rfl rfl rfl) ?_
      refine GL.val trivial rfl (OV.move (v := .bool (decide ((x11 : Int) < 0))) rfl) ?_
      obtain ⟨J14, h, hR15⟩ := h
      refine GL.cut (α := Bool) 8 J14 (fun b13 => [(27, .bool b13), (0, pv p_t), (6, slv x2.1), (8, .int .i64 x11), (11, slv p_l), (12, .int .i64 (Sl.len p_l : Int)), (13, .int .i64 x2.2)]) ?_ ?_
      · rcases Bool.eq_false_or_eq_true (decide ((x11 : Int) < 0)) with hc16 | hc16
        · skip
          replace h := And.left h hc16
          refine GL.skip ⟨_, rfl, .inl ⟨_, rfl, hc16⟩⟩ rfl ?_
          refine GL.skip ⟨_, rfl, .inl ⟨_, rfl, hc16⟩⟩ rfl ?_
          refine GL.skip ⟨_, rfl, .inl ⟨_, rfl, hc16⟩⟩ rfl ?_
          refine GL.skip ⟨_, rfl, .inl ⟨_, rfl, hc16⟩⟩ rfl ?_
          refine GL.skip ⟨_, rfl, .inl ⟨_, rfl, hc16⟩⟩ rfl ?_
          refine GL.skip ⟨_, rfl, .inl ⟨_, rfl, hc16⟩⟩ rfl ?_
          refine GL.skip ⟨_, rfl, .inl ⟨_, rfl, hc16⟩⟩ rfl ?_
          refine GL.val trivial rfl (OV.pickT (b := decide ((x11 : Int) < 0)) (v := .bool true) rfl hc16 rfl) ?_
          exact GL.jump (fun _ _ h => h) true h ⟨rfl, rfl, rfl, rfl, rfl, rfl, rfl, trivial⟩
        · skip
          replace h := And.right h hc16
          refine GL.val ⟨_, _, rfl, rfl, hc16⟩ rfl (OV.move (v := .int .i64 x11) rfl) ?_
          refine GL.val ⟨_, _, rfl, rfl, hc16⟩ rfl (OV.move (v := pv p_t) rfl) ?_
          obtain ⟨p17, hp18, h⟩ := h
          refine GL.val ⟨_, _, rfl, rfl, hc16⟩ rfl (OV.nilCheck (q := p_t) rfl hp18) ?_
          refine GL.val ⟨_, _, rfl, rfl, hc16⟩ rfl (OV.fieldAddr (p := p17) rfl rfl) ?_
          obtain ⟨x19, hr20, h⟩ := h
          refine GL.val ⟨_, _, rfl, rfl, hc16⟩ rfl (OV.load (p := (p17.1, p17.2 + 0)) rfl rfl hr20) ?_
          refine GL.val ⟨_, _, rfl, rfl, hc16⟩ rfl (OV.lenSl (s := x19) rfl rfl) ?_
          refine GL.val ⟨_, _, rfl, rfl, hc16⟩ rfl (OV.ibin (v := .bool (decide ((x11 : Int) ≥ (Sl.len x19 : Int)))) rfl rfl rfl) ?_
          refine GL.val trivial rfl (OV.pickF (b := decide ((x11 : Int) < 0)) (v := .bool (decide ((x11 : Int) ≥ (Sl.len x19 : Int)))) rfl hc16 rfl) ?_
          exact GL.jump (fun _ _ h => h) (decide ((x11 : Int) ≥ (Sl.len x19 : Int))) h ⟨rfl, rfl, rfl, rfl, rfl, rfl, rfl, trivial⟩
      intro b13 H21 h
      replace h := hR15 b13 H21 h
      refine GL.nil ?_
      refine GC.cond (b := b13) rfl (fun hc22 => ?_) (fun hc22 => ?_)
      · replace h := And.left h hc22
        refine GC.seq ?_
        refine GC.region ?_
        refine GL.val trivial rfl (OV.assign (v := slv Sl.nil) rfl) ?_
        refine GL.val trivial rfl (OV.assign (v := .int .i64 5) rfl) ?_
        refine GL.nil ?_
        exact GC.ret (fun _ _ hf hs => post_tmp2 rfl rfl rfl hf hs ⟨Sl.nil, 5, rfl, h⟩)
      · replace h := And.right h hc22
        refine GC.skip ?_
        refine GC.region ?_
        refine GL.val trivial rfl (OV.move (v := slv x2.1) rfl) ?_
        refine GL.val trivial rfl (OV.move (v := pv p_t) rfl) ?_
        obtain ⟨p23, hp24, h⟩ := h
        refine GL.val trivial rfl (OV.nilCheck (q := p_t) rfl hp24) ?_
        refine GL.val trivial rfl (OV.fieldAddr (p := p23) rfl rfl) ?_
        obtain ⟨x25, hr26, h⟩ := h
        refine GL.val trivial rfl (OV.load (p := (p23.1, p23.2 + 0)) rfl rfl hr26) ?_
        refine GL.val trivial rfl (OV.move (v := .int .i64 x11) rfl) ?_
        refine GL.val trivial rfl (OV.move (v := .int .i64 x11) rfl) ?_
        refine GL.val trivial rfl (OV.ibin (v := .int .i64 (w .i64 (x11 + 1))) rfl rfl rfl) ?_
        obtain ⟨h28, h29, h30, h31, t27, h32, h⟩ := h
        refine GL.val trivial rfl (OV.sliceSl (s := x25) h28 h29 h30 h31 h32 rfl rfl rfl rfl rfl rfl rfl (fun h => by first | rfl | cases h) rfl rfl) ?_
        refine GL.call h trivial rfl ok_intern_own (vs := [slv t27]) rfl ?_
        rintro _ H34 ⟨r33, rfl, h⟩
        refine GL.appendS (s := x2.1) (s2 := r33) (zc := T_api_Value.c T_api_Value.zero) (bytes := 56) h trivial rfl rfl rfl ⟨⟨_, _, _, rfl, rfl, rfl, rfl, rfl, rfl⟩⟩ rfl ?_
        intro r35 H36 h
        refine GL.val trivial rfl (OV.assign (v := slv r35) rfl) ?_
        refine GL.nil_to (fun _ _ h => h) ?_
        refine GC.region ?_
        refine GL.val trivial rfl (OV.ibin (v := .int .i64 (w .i64 (x2.2 + 1))) rfl rfl rfl) ?_
        refine GL.val trivial rfl (OV.move (v := .int .i64 (w .i64 (x2.2 + 1))) rfl) ?_
        exact GL.jump (fun _ _ h => h) (r35, (w .i64 (x2.2 + 1))) h ⟨rfl, rfl, rfl, rfl, rfl, trivial⟩
    · replace h := And.right h hc5
      refine GC.exit_to (fun _ _ h => h) ?_
      refine GC.seq ?_
      refine GC.region ?_
      refine GL.val trivial rfl (OV.move (v := slv x2.1) rfl) ?_
      refine GL.val trivial rfl (OV.assign (v := slv x2.1) rfl) ?_
      refine GL.val trivial rfl (OV.assign (v := .int .i64 0) rfl) ?_
      refine GL.nil ?_
      exact GC.ret (fun _ _ hf hs => post_tmp2 rfl rfl rfl hf hs ⟨x2.1, 0, rfl, h⟩)

def sh_ref02_SameRow (C : Ctx) (p_a : Sl) (p_b : Sl) (K : Bool → Heap → Prop) (H : Heap) : Prop :=
  ift (((Sl.len p_a : Int) : Int) != (Sl.len p_b : Int))
 (K false H)
 (lp (α := Int) 0 H (fun x2 J3 H4 =>
 ift (decide ((x2 : Int) < (Sl.len p_a : Int)))
 (dr H4 fun Hs6 =>
 ixa p_a x2 fun p8 =>
 ldT Hs6 T_api_Value.c (p8.1, p8.2 + (x2 : Int).toNat * 4) fun x13 =>
 ixa p_b x2 fun p15 =>
 ldT Hs6 T_api_Value.c (p15.1, p15.2 + (x2 : Int).toNat * 4) fun x20 =>
 c_ref02_Same C x13 x20 (fun r23 H24 =>
 Heap.le Hs6 H24 ∧
 ift (!r23)
 (K false H24)
 (J3 (w .i64 (x2 + 1)) H24)) H4)
 (K true H4)))

theorem ad_ref02_SameRow (C : Ctx) (p_a : Sl) (p_b : Sl) (K : Bool → Heap → Prop) (H : Heap) (h : sh_ref02_SameRow C p_a p_b K H) : c_ref02_SameRow C p_a p_b K H := by
  refine Spec.enter Tryd.func10 rfl Tryd.ntmps10 rfl ?_
  refine GC.sub [(0, slv p_a), (1, slv p_b)] ⟨rfl, rfl, trivial⟩ ?_
  refine GC.seq ?_
  refine GC.region ?_
  refine GL.val trivial rfl (OV.assign (v := .bool false) rfl) ?_
  refine GL.nil ?_
  refine GC.seq ?_
  refine GC.seq ?_
  refine GC.region ?_
  refine GL.val trivial rfl (OV.move (v := slv p_a) rfl) ?_
  refine GL.val trivial rfl (OV.lenSl (s := p_a) rfl rfl) ?_
  refine GL.val trivial rfl (OV.move (v := slv p_b) rfl) ?_
  refine GL.val trivial rfl (OV.lenSl (s := p_b) rfl rfl) ?_
  refine GL.val trivial rfl (OV.ibin (v := .bool (((Sl.len p_a : Int) : Int) != (Sl.len p_b : Int))) rfl rfl rfl) ?_
  refine GL.nil ?_
  refine GC.cond (b := ((Sl.len p_a : Int) : Int) != (Sl.len p_b : Int)) rfl (fun hc1 => ?_) (fun hc1 => ?_)
  · replace h := And.left h hc1
    refine GC.seq ?_
    refine GC.region ?_
    refine GL.val trivial rfl (OV.assign (v := .bool false) rfl) ?_
    refine GL.nil ?_
    exact GC.ret (fun _ _ hf hs => post_tmp1 rfl rfl hf hs ⟨false, rfl, h⟩)
  · replace h := And.right h hc1
    refine GC.skip ?_
    refine GC.seq ?_
    refine GC.seq ?_
    refine GC.region ?_
    refine GL.val trivial rfl (OV.assign (v := .int .i64 0) rfl) ?_
    refine GL.nil ?_
    refine GC.block ?_
    refine GC.loop (α := Int) h (fun x2 => [(5, .int .i64 x2), (0, slv p_a), (1, slv p_b)]) ⟨rfl, rfl, rfl, trivial⟩ ?_
    intro x2 H4 J3 h
    refine GC.seq ?_
    refine GC.seq ?_
    refine GC.region ?_
    refine GL.val trivial rfl (OV.move (v := .int .i64 x2) rfl) ?_
    refine GL.val trivial rfl (OV.move (v := slv p_a) rfl) ?_
    refine GL.val trivial rfl (OV.lenSl (s := p_a) rfl rfl) ?_
    refine GL.val trivial rfl (OV.ibin (v := .bool (decide ((x2 : Int) < (Sl.len p_a : Int)))) rfl rfl rfl) ?_
    refine GL.nil ?_
    refine GC.cond (b := decide ((x2 : Int) < (Sl.len p_a : Int))) rfl (fun hc5 => ?_) (fun hc5 => ?_)
    · replace h := And.left h hc5
      refine GC.skip ?_
      refine GC.seq ?_
      refine GC.block ?_
      refine GC.seq ?_
      obtain ⟨Hs6, hle7, h⟩ := h
      refine GC.any (Hs := Hs6) (by kernel_rfl) hle7 ?_
      refine GA.take 0 rfl (by kernel_rfl) (by kernel_rfl) (by kernel_rfl) (fun _ _ _ h => False.elim h) trivial rfl (OV.move (v := slv p_a) rfl) ?_
      refine GA.take 1 rfl (by kernel_rfl) (by kernel_rfl) (by kernel_rfl) (fun _ _ _ h => False.elim h) trivial rfl (OV.move (v := .int .i64 x2) rfl) ?_
      obtain ⟨p8, ha9, hb10, hc11, hd12, h⟩ := h
      refine GA.take 2 rfl (by kernel_rfl) (by kernel_rfl) (by kernel_rfl) (fun _ _ _ h => False.elim h) trivial rfl (OV.indexAddr (s := p_a) rfl rfl rfl rfl ha9 hb10 hc11 hd12) ?_
      obtain ⟨x13, hr14, h⟩ := h
      refine GA.take 3 rfl (by kernel_rfl) (by kernel_rfl) (by kernel_rfl) (fun _ _ _ h => False.elim h) trivial rfl (OV.loadT (p := (p8.1, p8.2 + (x2 : Int).toNat * 4)) (cs := T_api_Value.c x13) rfl rfl rfl hr14) ?_
      refine GA.take 4 rfl (by kernel_rfl) (by kernel_rfl) (by kernel_rfl) (fun _ _ _ h => False.elim h) trivial rfl (OV.move (v := slv p_b) rfl) ?_
      refine GA.take 5 rfl (by kernel_rfl) (by kernel_rfl) (by kernel_rfl) (fun _ _ _ h => False.elim h) trivial rfl (OV.move (v := .int .i64 x2) rfl) ?_
      obtain ⟨p15, ha16, hb17, hc18, hd19, h⟩ := h
      refine GA.take 6 rfl (by kernel_rfl) (by kernel_rfl) (by kernel_rfl) (fun _ _ _ h => False.elim h) trivial rfl (OV.indexAddr (s := p_b) rfl rfl rfl rfl ha16 hb17 hc18 hd19) ?_
      obtain ⟨x20, hr21, h⟩ := h
      refine GA.take 7 rfl (by kernel_rfl) (by kernel_rfl) (by kernel_rfl) (fun _ _ _ h => False.elim h) trivial rfl (OV.loadT (p := (p15.1, p15.2 + (x2 : Int).toNat * 4)) (cs := T_api_Value.c x20) rfl rfl rfl hr21) ?_
      refine GA.eff 8 rfl (by kernel_rfl) ?_
      refine GL.call h trivial rfl ok_ref02_Same (vs := [.agg (T_api_Value.c x13).toArray, .agg (T_api_Value.c x20).toArray]) rfl ?_
      rintro _ H24 ⟨r23, rfl, h⟩
      obtain ⟨hle22, h⟩ := h
      refine GA.back hle22 ?_
      refine GA.take 9 rfl (by kernel_rfl) (by kernel_rfl) (by kernel_rfl) (fun _ _ _ h => False.elim h) trivial rfl (OV.not rfl) ?_
      refine GA.done (by kernel_rfl) ?_
      refine GL.nil ?_
      refine GC.cond (b := !r23) rfl (fun hc25 => ?_) (fun hc25 => ?_)
      · replace h := And.left h hc25
        refine GC.seq ?_
        refine GC.region ?_
        refine GL.val trivial rfl (OV.assign (v := .bool false) rfl) ?_
        refine GL.nil ?_
        exact GC.ret (fun _ _ hf hs => post_tmp1 rfl rfl hf hs ⟨false, rfl, h⟩)
      · replace h := And.right h hc25
        refine GC.skip_to (fun _ _ h => h) ?_
        refine GC.region ?_
        refine GL.val trivial rfl (OV.move (v := .int .i64 x2) rfl) ?_
        refine GL.val trivial rfl (OV.ibin (v := .int .i64 (w .i64 (x2 + 1))) rfl rfl rfl) ?_
        refine GL.val trivial rfl (OV.assign (v := .int .i64 (w .i64 (x2 + 1))) rfl) ?_
        exact GL.jump (fun _ _ h => h) (w .i64 (x2 + 1)) h ⟨rfl, rfl, rfl, trivial⟩
    · replace h := And.right h hc5
      refine GC.exit_to (fun _ _ h => h) ?_
      refine GC.seq ?_
      refine GC.region ?_
      refine GL.val trivial rfl (OV.assign (v := .bool true) rfl) ?_
      refine GL.nil ?_
      exact GC.ret (fun _ _ hf hs => post_tmp1 rfl rfl hf hs ⟨true, rfl, h⟩)

def sh_law04_weight (C : Ctx) (p_v : T_api_Value) (p_most : Int) (K : Int → Heap → Prop) (H : Heap) : Prop :=
  nw (T_api_Value.c p_v) (fun b1 H2 =>
 ldS H2 ((b1, 0).1, (b1, 0).2 + 2) fun x3 =>
 lp (α := Int × Int) ((w .i64 (1 + (w .i64 (Int.tdiv (List.length x3 : Int) 50)))), 0) H2 (fun x5 J6 H7 =>
 ldL H7 ((b1, 0).1, (b1, 0).2 + 3) fun x8 =>
 ift ((decide ((x5.2 : Int) < (Sl.len x8 : Int))) && (decide ((x5.1 : Int) < p_most)))
 (ldL H7 ((b1, 0).1, (b1, 0).2 + 3) fun x12 =>
 ixa x12 x5.2 fun p14 =>
 ldT H7 T_api_Value.c (p14.1, p14.2 + (x5.2 : Int).toNat * 4) fun x19 =>
 c_law04_weight C x19 (w .i64 (p_most - x5.1)) (fun r21 H22 =>
 J6 ((w .i64 (x5.1 + r21)), (w .i64 (x5.2 + 1))) H22) H7)
 (K x5.1 H7))) H

theorem ad_law04_weight (C : Ctx) (p_v : T_api_Value) (p_most : Int) (K : Int → Heap → Prop) (H : Heap) (h : sh_law04_weight C p_v p_most K H) : c_law04_weight C p_v p_most K H := by
  refine Spec.enter Tryd.func11 rfl Tryd.ntmps11 rfl ?_
  refine GC.sub [(0, .agg (T_api_Value.c p_v).toArray), (1, .int .i64 p_most)] ⟨rfl, rfl, trivial⟩ ?_
  refine GC.seq ?_
  refine GC.region ?_
  refine GL.box (v := .agg (T_api_Value.c p_v).toArray) (cs := T_api_Value.c p_v) h trivial rfl rfl rfl ?_
  intro b1 H2 h
  refine GL.val trivial rfl (OV.assign (v := .int .i64 0) rfl) ?_
  refine GL.nil ?_
  refine GC.seq ?_
  refine GC.region ?_
  refine GL.val trivial rfl (OV.fieldAddr (p := (b1, 0)) rfl rfl) ?_
  obtain ⟨x3, hr4, h⟩ := h
  refine GL.val trivial rfl (OV.load (p := ((b1, 0).1, (b1, 0).2 + 2)) rfl rfl hr4) ?_
  refine GL.val trivial rfl (OV.lenStr (s := x3) rfl rfl) ?_
  refine GL.val trivial rfl (OV.quo rfl rfl (by decide)) ?_
  refine GL.val trivial rfl (OV.ibin (v := .int .i64 (w .i64 (1 + (w .i64 (Int.tdiv (List.length x3 : Int) 50))))) rfl rfl rfl) ?_
  refine GL.val trivial rfl (OV.assign (v := .int .i64 (w .i64 (1 + (w .i64 (Int.tdiv (List.length x3 : Int) 50))))) rfl) ?_
  refine GL.nil ?_
  refine GC.seq ?_
  refine GC.seq ?_
  refine GC.region ?_
  refine GL.val trivial rfl (OV.assign (v := .int .i64 0) rfl) ?_
  refine GL.nil ?_
  refine GC.block ?_
  refine GC.loop (α := Int × Int) h (fun x5 => [(5, .int .i64 x5.1), (6, .int .i64 x5.2), (1, .int .i64 p_most), (2, pv (some (b1, 0)))]) ⟨rfl, rfl, rfl, rfl, trivial⟩ ?_
  intro x5 H7 J6 h
  refine GC.seq ?_
  refine GC.seq ?_
  refine GC.region ?_
  refine GL.val trivial rfl (OV.move (v := .int .i64 x5.2) rfl) ?_
  refine GL.val trivial rfl (OV.fieldAddr (p := (b1, 0)) rfl rfl) ?_
  obtain ⟨x8, hr9, h⟩ := h
  refine GL.val trivial rfl (OV.load (p := ((b1, 0).1, (b1, 0).2 + 3)) rfl rfl hr9) ?_
  refine GL.val trivial rfl (OV.lenSl (s := x8) rfl rfl) ?_
  refine GL.val trivial rfl (OV.ibin (v := .bool (decide ((x5.2 : Int) < (Sl.len x8 : Int)))) rfl rfl rfl) ?_
  refine GL.val trivial rfl (OV.move (v := .bool (decide ((x5.2 : Int) < (Sl.len x8 : Int)))) rfl) ?_
  refine GL.cut0 4 [(21, .bool ((decide ((x5.2 : Int) < (Sl.len x8 : Int))) && (decide ((x5.1 : Int) < p_most)))), (1, .int .i64 p_most), (2, pv (some (b1, 0))), (5, .int .i64 x5.1), (6, .int .i64 x5.2)] ?_ ?_
  · rcases Bool.eq_false_or_eq_true (decide ((x5.2 : Int) < (Sl.len x8 : Int))) with hc10 | hc10
    · skip
      refine GL.val ⟨_, _, rfl, rfl, hc10⟩ rfl (OV.move (v := .int .i64 x5.1) rfl) ?_
      refine GL.val ⟨_, _, rfl, rfl, hc10⟩ rfl (OV.move (v := .int .i64 p_most) rfl) ?_
      refine GL.val ⟨_, _, rfl, rfl, hc10⟩ rfl (OV.ibin (v := .bool (decide ((x5.1 : Int) < p_most))) rfl rfl rfl) ?_
      refine GL.val trivial rfl (OV.pickT (b := decide ((x5.2 : Int) < (Sl.len x8 : Int))) (v := .bool (decide ((x5.1 : Int) < p_most))) rfl hc10 rfl) ?_
      exact GL.jump0 (fun _ _ h => h) () rfl ⟨(by rw [hc10]; rfl), rfl, rfl, rfl, rfl, trivial⟩
    · skip
      refine GL.skip ⟨_, rfl, .inl ⟨_, rfl, hc10⟩⟩ rfl ?_
      refine GL.skip ⟨_, rfl, .inl ⟨_, rfl, hc10⟩⟩ rfl ?_
      refine GL.skip ⟨_, rfl, .inl ⟨_, rfl, hc10⟩⟩ rfl ?_
      refine GL.val trivial rfl (OV.pickF (b := decide ((x5.2 : Int) < (Sl.len x8 : Int))) (v := .bool false) rfl hc10 rfl) ?_
      exact GL.jump0 (fun _ _ h => h) () rfl ⟨(by rw [hc10]; rfl), rfl, rfl, rfl, rfl, trivial⟩
  refine GL.nil ?_
  refine GC.cond (b := (decide ((x5.2 : Int) < (Sl.len x8 : Int))) && (decide ((x5.1 : Int) < p_most))) rfl (fun hc11 => ?_) (fun hc11 => ?_)
  · replace h := And.left h hc11
    refine GC.skip ?_
    refine GC.seq ?_
    refine GC.block ?_
    refine GC.region ?_
    refine GL.val trivial rfl (OV.move (v := .int .i64 x5.1) rfl) ?_
    refine GL.val trivial rfl (OV.fieldAddr (p := (b1, 0)) rfl rfl) ?_
    obtain ⟨x12, hr13, h⟩ := h
    refine GL.val trivial rfl (OV.load (p := ((b1, 0).1, (b1, 0).2 + 3)) rfl rfl hr13) ?_
    refine GL.val trivial rfl (OV.move (v := .int .i64 x5.2) rfl) ?_
    obtain ⟨p14, ha15, hb16, hc17, hd18, h⟩ := h
    refine GL.val trivial rfl (OV.indexAddr (s := x12) rfl rfl rfl rfl ha15 hb16 hc17 hd18) ?_
    obtain ⟨x19, hr20, h⟩ := h
    refine GL.val trivial rfl (OV.loadT (p := (p14.1, p14.2 + (x5.2 : Int).toNat * 4)) (cs := T_api_Value.c x19) rfl rfl rfl hr20) ?_
    refine GL.val trivial rfl (OV.move (v := .int .i64 p_most) rfl) ?_
    refine GL.val trivial rfl (OV.move (v := .int .i64 x5.1) rfl) ?_
    refine GL.val trivial rfl (OV.ibin (v := .int .i64 (w .i64 (p_most - x5.1))) rfl rfl rfl) ?_
    refine GL.call h trivial rfl ok_law04_weight (vs := [.agg (T_api_Value.c x19).toArray, .int .i64 (w .i64 (p_most - x5.1))]) rfl ?_
    rintro _ H22 ⟨r21, rfl, h⟩
    refine GL.val trivial rfl (OV.ibin (v := .int .i64 (w .i64 (x5.1 + r21))) rfl rfl rfl) ?_
    refine GL.val trivial rfl (OV.assign (v := .int .i64 (w .i64 (x5.1 + r21))) rfl) ?_
    refine GL.nil_to (fun _ _ h => h) ?_
    refine GC.region ?_
    refine GL.val trivial rfl (OV.move (v := .int .i64 x5.2) rfl) ?_
    refine GL.val trivial rfl (OV.ibin (v := .int .i64 (w .i64 (x5.2 + 1))) rfl rfl rfl) ?_
    refine GL.val trivial rfl (OV.assign (v := .int .i64 (w .i64 (x5.2 + 1))) rfl) ?_
    exact GL.jump (fun _ _ h => h) ((w .i64 (x5.1 + r21)), (w .i64 (x5.2 + 1))) h ⟨rfl, rfl, rfl, rfl, trivial⟩
  · replace h := And.right h hc11
    refine GC.exit_to (fun _ _ h => h) ?_
    refine GC.seq ?_
    refine GC.region ?_
    refine GL.val trivial rfl (OV.move (v := .int .i64 x5.1) rfl) ?_
    refine GL.val trivial rfl (OV.assign (v := .int .i64 x5.1) rfl) ?_
    refine GL.nil ?_
    exact GC.ret (fun _ _ hf hs => post_tmp1 rfl rfl hf hs ⟨x5.1, rfl, h⟩)

def sh_intern_Table_Len (C : Ctx) (p_t : Option (Nat × Nat)) (K : Int → Heap → Prop) (H : Heap) : Prop :=
  ift (Option.isNone p_t)
 (K 0 H)
 (nck p_t fun p2 =>
 ldL H (p2.1, p2.2 + 0) fun x4 =>
 K (Sl.len x4 : Int) H)

theorem ad_intern_Table_Len (C : Ctx) (p_t : Option (Nat × Nat)) (K : Int → Heap → Prop) (H : Heap) (h : sh_intern_Table_Len C p_t K H) : c_intern_Table_Len C p_t K H := by
  refine Spec.enter Tryd.func12 rfl Tryd.ntmps12 rfl ?_
  refine GC.sub [(0, pv p_t)] ⟨rfl, trivial⟩ ?_
  refine GC.seq ?_
  refine GC.region ?_
  refine GL.val trivial rfl (OV.assign (v := .int .i64 0) rfl) ?_
  refine GL.nil ?_
  refine GC.seq ?_
  refine GC.seq ?_
  refine GC.region ?_
  refine GL.val trivial rfl (OV.move (v := pv p_t) rfl) ?_
  refine GL.val trivial rfl (OV.eqlNil (p := p_t) rfl rfl rfl) ?_
  refine GL.nil ?_
  refine GC.cond (b := Option.isNone p_t) rfl (fun hc1 => ?_) (fun hc1 => ?_)
  · replace h := And.left h hc1
    refine GC.seq ?_
    refine GC.region ?_
    refine GL.val trivial rfl (OV.assign (v := .int .i64 0) rfl) ?_
    refine GL.nil ?_
    exact GC.ret (fun _ _ hf hs => post_tmp1 rfl rfl hf hs ⟨0, rfl, h⟩)
  · replace h := And.right h hc1
    refine GC.skip ?_
    refine GC.seq ?_
    refine GC.region ?_
    refine GL.val trivial rfl (OV.move (v := pv p_t) rfl) ?_
    obtain ⟨p2, hp3, h⟩ := h
    refine GL.val trivial rfl (OV.nilCheck (q := p_t) rfl hp3) ?_
    refine GL.val trivial rfl (OV.fieldAddr (p := p2) rfl rfl) ?_
    obtain ⟨x4, hr5, h⟩ := h
    refine GL.val trivial rfl (OV.load (p := (p2.1, p2.2 + 0)) rfl rfl hr5) ?_
    refine GL.val trivial rfl (OV.lenSl (s := x4) rfl rfl) ?_
    refine GL.val trivial rfl (OV.assign (v := .int .i64 (Sl.len x4 : Int)) rfl) ?_
    refine GL.nil ?_
    exact GC.ret (fun _ _ hf hs => post_tmp1 rfl rfl hf hs ⟨(Sl.len x4 : Int), rfl, h⟩)

end Sx
end

