/-
  Made by program (wip/gen/gen.py): the shallow forms of the functions, and that each implies its contract.
-/
import Derived.Test.YthmnlmegehaccaaDoorSxBld
import Derived.Test.YthmnlmegehaccaaDoorProg
set_option linter.unusedVariables false
set_option maxRecDepth 100000
namespace Sx
open Go Go.Proofs

structure T_S_s_string_n_int where
  s_ : Str
  n_ : Int
def T_S_s_string_n_int.c (x : T_S_s_string_n_int) : List Value := [sv x.s_, .int .i64 x.n_]
def T_S_s_string_n_int.zero : T_S_s_string_n_int := ⟨[], 0⟩

theorem ok_law28_CsvReads : CallOk Tryd.prog 3 := ⟨⟨_, Tryd.func3, rfl, by decide +kernel⟩⟩
theorem ok_law28_CsvWrites : CallOk Tryd.prog 4 := ⟨⟨_, Tryd.func4, rfl, by decide +kernel⟩⟩
theorem ok_law28_CsvNames : CallOk Tryd.prog 5 := ⟨⟨_, Tryd.func5, rfl, by decide +kernel⟩⟩
theorem ok_law28_CsvBack : CallOk Tryd.prog 6 := ⟨⟨_, Tryd.func6, rfl, by decide +kernel⟩⟩
theorem ok_law28_CsvEnds : CallOk Tryd.prog 7 := ⟨⟨_, Tryd.func7, rfl, by decide +kernel⟩⟩
theorem ok_law28_CsvRow : CallOk Tryd.prog 8 := ⟨⟨_, Tryd.func8, rfl, by decide +kernel⟩⟩
theorem ok_law28_awake : CallOk Tryd.prog 9 := ⟨⟨_, Tryd.func9, rfl, by decide +kernel⟩⟩
theorem ok_csv_Read : CallOk Tryd.prog 10 := ⟨⟨_, Tryd.func10, rfl, by decide +kernel⟩⟩
theorem ok_ref28_Read : CallOk Tryd.prog 11 := ⟨⟨_, Tryd.func11, rfl, by decide +kernel⟩⟩
theorem ok_ref28_Same : CallOk Tryd.prog 12 := ⟨⟨_, Tryd.func12, rfl, by decide +kernel⟩⟩
theorem ok_law28_large : CallOk Tryd.prog 13 := ⟨⟨_, Tryd.func13, rfl, by decide +kernel⟩⟩
theorem ok_law28_own : CallOk Tryd.prog 14 := ⟨⟨_, Tryd.func14, rfl, by decide +kernel⟩⟩
theorem ok_csv_Write : CallOk Tryd.prog 15 := ⟨⟨_, Tryd.func15, rfl, by decide +kernel⟩⟩
theorem ok_ref28_Write : CallOk Tryd.prog 16 := ⟨⟨_, Tryd.func16, rfl, by decide +kernel⟩⟩
theorem ok_csv_Read_1 : CallOk Tryd.prog 17 := ⟨⟨_, Tryd.func17, rfl, by decide +kernel⟩⟩
theorem ok_strings_Builder_String : CallOk Tryd.prog 18 := ⟨⟨_, Tryd.func18, rfl, by decide +kernel⟩⟩
theorem ok_strings_Builder_Reset : CallOk Tryd.prog 19 := ⟨⟨_, Tryd.func19, rfl, by decide +kernel⟩⟩
theorem ok_csv_Read_2 : CallOk Tryd.prog 20 := ⟨⟨_, Tryd.func20, rfl, by decide +kernel⟩⟩
theorem ok_strings_Builder_WriteByte : CallOk Tryd.prog 21 := ⟨⟨_, Tryd.func21, rfl, by decide +kernel⟩⟩
theorem ok_ref28_field : CallOk Tryd.prog 22 := ⟨⟨_, Tryd.func22, rfl, by decide +kernel⟩⟩
theorem ok_ref28_end : CallOk Tryd.prog 23 := ⟨⟨_, Tryd.func23, rfl, by decide +kernel⟩⟩
theorem ok_strings_Builder_WriteString : CallOk Tryd.prog 24 := ⟨⟨_, Tryd.func24, rfl, by decide +kernel⟩⟩
theorem ok_csv_own : CallOk Tryd.prog 25 := ⟨⟨_, Tryd.func25, rfl, by decide +kernel⟩⟩
theorem ok_ref28_Own : CallOk Tryd.prog 26 := ⟨⟨_, Tryd.func26, rfl, by decide +kernel⟩⟩
theorem ok_strings_Builder_copyCheck : CallOk Tryd.prog 27 := ⟨⟨_, Tryd.func27, rfl, by decide +kernel⟩⟩
theorem ok_strings_Contains : CallOk Tryd.prog 28 := ⟨⟨_, Tryd.func28, rfl, by decide +kernel⟩⟩
theorem ok_strings_ReplaceAll : CallOk Tryd.prog 29 := ⟨⟨_, Tryd.func29, rfl, by decide +kernel⟩⟩
theorem ok_strings_Index : CallOk Tryd.prog 31 := ⟨⟨_, Tryd.func31, rfl, by decide +kernel⟩⟩
theorem ok_strings_Replace : CallOk Tryd.prog 32 := ⟨⟨_, Tryd.func32, rfl, by decide +kernel⟩⟩
theorem ok_internal_stringslite_Index : CallOk Tryd.prog 33 := ⟨⟨_, Tryd.func33, rfl, by decide +kernel⟩⟩
theorem ok_strings_Count : CallOk Tryd.prog 34 := ⟨⟨_, Tryd.func34, rfl, by decide +kernel⟩⟩
theorem ok_strings_Builder_Grow : CallOk Tryd.prog 35 := ⟨⟨_, Tryd.func35, rfl, by decide +kernel⟩⟩
theorem ok_unicode_utf8_DecodeRuneInString : CallOk Tryd.prog 36 := ⟨⟨_, Tryd.func36, rfl, by decide +kernel⟩⟩
theorem ok_internal_stringslite_IndexByte : CallOk Tryd.prog 37 := ⟨⟨_, Tryd.func37, rfl, by decide +kernel⟩⟩
theorem ok_internal_bytealg_Cutover : CallOk Tryd.prog 39 := ⟨⟨_, Tryd.func39, rfl, by decide +kernel⟩⟩
theorem ok_internal_bytealg_IndexRabinKarp_string : CallOk Tryd.prog 40 := ⟨⟨_, Tryd.func40, rfl, by decide +kernel⟩⟩
theorem ok_unicode_utf8_RuneCountInString : CallOk Tryd.prog 41 := ⟨⟨_, Tryd.func41, rfl, by decide +kernel⟩⟩
theorem ok_strings_Builder_grow : CallOk Tryd.prog 43 := ⟨⟨_, Tryd.func43, rfl, by decide +kernel⟩⟩
theorem ok_unicode_utf8_decodeRuneInStringSlow : CallOk Tryd.prog 44 := ⟨⟨_, Tryd.func44, rfl, by decide +kernel⟩⟩
theorem ok_internal_bytealg_hashStr_string : CallOk Tryd.prog 46 := ⟨⟨_, Tryd.func46, rfl, by decide +kernel⟩⟩

theorem ext_internal_abi_NoEscape : ExtOk Tryd.prog 30 Extern.AbiNoEscape.same := ⟨⟨_, Tryd.func30, by kernel_rfl, by kernel_rfl, by kernel_rfl, by kernel_rfl⟩⟩
theorem ext_internal_bytealg_CountString : ExtOk Tryd.prog 42 Extern.BytealgCount.count := ⟨⟨_, Tryd.func42, by kernel_rfl, by kernel_rfl, by kernel_rfl, by kernel_rfl⟩⟩
theorem ext_internal_bytealg_IndexByteString : ExtOk Tryd.prog 45 Extern.BytealgIndexByte.indexByte := ⟨⟨_, Tryd.func45, by kernel_rfl, by kernel_rfl, by kernel_rfl, by kernel_rfl⟩⟩
theorem ext_internal_bytealg_MakeNoZero : ExtOk Tryd.prog 47 (Extern.BytealgMakeNoZero.makeNoZero #[3] #[40]) := ⟨⟨_, Tryd.func47, by kernel_rfl, by kernel_rfl, by kernel_rfl, by kernel_rfl⟩⟩

abbrev tyB : TypeId := 42
abbrev tyE : TypeId := 5
abbrev Bd (bs : Str) : GO := .bld tyB tyE bs

def c_law28_CsvReads (C : Ctx) (p_s : Str) (K : Bool → Heap → Prop) (H : Heap) : Prop :=
  Spec Tryd.prog C 3 [sv p_s] H (fun v H2 => ∃ (r0 : Bool), v = .bool r0 ∧ K r0 H2)
theorem c_law28_CsvReads.mono {C : Ctx} {p_s : Str} {K K2 : Bool → Heap → Prop} {H : Heap} (h : c_law28_CsvReads C p_s K H) (hk : ∀ r0 H2, K r0 H2 → K2 r0 H2) : c_law28_CsvReads C p_s K2 H :=
  Spec.mono h fun _ H2 ⟨r0, hv, h2⟩ => ⟨r0, hv, hk r0 H2 h2⟩
theorem c_law28_CsvReads.gh {C : Ctx} {p_s : Str} {K : Bool → Heap → Prop} {H : Heap} (h : c_law28_CsvReads C p_s (fun r0 H2 => ∃ H0, Gh C H2 H0 ∧ K r0 H0) H) : c_law28_CsvReads C p_s K H :=
  Spec.gh (Spec.mono h fun _ H2 ⟨r0, hv, H0, hg, hk⟩ => ⟨H0, hg, r0, hv, hk⟩)
def c_law28_CsvWrites (C : Ctx) (p_l : Sl) (K : Bool → Heap → Prop) (H : Heap) : Prop :=
  Spec Tryd.prog C 4 [slv p_l] H (fun v H2 => ∃ (r0 : Bool), v = .bool r0 ∧ K r0 H2)
theorem c_law28_CsvWrites.mono {C : Ctx} {p_l : Sl} {K K2 : Bool → Heap → Prop} {H : Heap} (h : c_law28_CsvWrites C p_l K H) (hk : ∀ r0 H2, K r0 H2 → K2 r0 H2) : c_law28_CsvWrites C p_l K2 H :=
  Spec.mono h fun _ H2 ⟨r0, hv, h2⟩ => ⟨r0, hv, hk r0 H2 h2⟩
theorem c_law28_CsvWrites.gh {C : Ctx} {p_l : Sl} {K : Bool → Heap → Prop} {H : Heap} (h : c_law28_CsvWrites C p_l (fun r0 H2 => ∃ H0, Gh C H2 H0 ∧ K r0 H0) H) : c_law28_CsvWrites C p_l K H :=
  Spec.gh (Spec.mono h fun _ H2 ⟨r0, hv, H0, hg, hk⟩ => ⟨H0, hg, r0, hv, hk⟩)
def c_law28_CsvNames (C : Ctx) (K : Bool → Heap → Prop) (H : Heap) : Prop :=
  Spec Tryd.prog C 5 [] H (fun v H2 => ∃ (r0 : Bool), v = .bool r0 ∧ K r0 H2)
theorem c_law28_CsvNames.mono {C : Ctx} {K K2 : Bool → Heap → Prop} {H : Heap} (h : c_law28_CsvNames C  K H) (hk : ∀ r0 H2, K r0 H2 → K2 r0 H2) : c_law28_CsvNames C  K2 H :=
  Spec.mono h fun _ H2 ⟨r0, hv, h2⟩ => ⟨r0, hv, hk r0 H2 h2⟩
theorem c_law28_CsvNames.gh {C : Ctx} {K : Bool → Heap → Prop} {H : Heap} (h : c_law28_CsvNames C  (fun r0 H2 => ∃ H0, Gh C H2 H0 ∧ K r0 H0) H) : c_law28_CsvNames C  K H :=
  Spec.gh (Spec.mono h fun _ H2 ⟨r0, hv, H0, hg, hk⟩ => ⟨H0, hg, r0, hv, hk⟩)
def c_law28_CsvBack (C : Ctx) (p_l : Sl) (p_s : Str) (K : Bool → Heap → Prop) (H : Heap) : Prop :=
  Spec Tryd.prog C 6 [slv p_l, sv p_s] H (fun v H2 => ∃ (r0 : Bool), v = .bool r0 ∧ K r0 H2)
theorem c_law28_CsvBack.mono {C : Ctx} {p_l : Sl} {p_s : Str} {K K2 : Bool → Heap → Prop} {H : Heap} (h : c_law28_CsvBack C p_l p_s K H) (hk : ∀ r0 H2, K r0 H2 → K2 r0 H2) : c_law28_CsvBack C p_l p_s K2 H :=
  Spec.mono h fun _ H2 ⟨r0, hv, h2⟩ => ⟨r0, hv, hk r0 H2 h2⟩
theorem c_law28_CsvBack.gh {C : Ctx} {p_l : Sl} {p_s : Str} {K : Bool → Heap → Prop} {H : Heap} (h : c_law28_CsvBack C p_l p_s (fun r0 H2 => ∃ H0, Gh C H2 H0 ∧ K r0 H0) H) : c_law28_CsvBack C p_l p_s K H :=
  Spec.gh (Spec.mono h fun _ H2 ⟨r0, hv, H0, hg, hk⟩ => ⟨H0, hg, r0, hv, hk⟩)
def c_law28_CsvEnds (C : Ctx) (p_l : Sl) (p_picks : Sl) (p_last : Bool) (K : Bool → Heap → Prop) (H : Heap) : Prop :=
  Spec Tryd.prog C 7 [slv p_l, slv p_picks, .bool p_last] H (fun v H2 => ∃ (r0 : Bool), v = .bool r0 ∧ K r0 H2)
theorem c_law28_CsvEnds.mono {C : Ctx} {p_l : Sl} {p_picks : Sl} {p_last : Bool} {K K2 : Bool → Heap → Prop} {H : Heap} (h : c_law28_CsvEnds C p_l p_picks p_last K H) (hk : ∀ r0 H2, K r0 H2 → K2 r0 H2) : c_law28_CsvEnds C p_l p_picks p_last K2 H :=
  Spec.mono h fun _ H2 ⟨r0, hv, h2⟩ => ⟨r0, hv, hk r0 H2 h2⟩
theorem c_law28_CsvEnds.gh {C : Ctx} {p_l : Sl} {p_picks : Sl} {p_last : Bool} {K : Bool → Heap → Prop} {H : Heap} (h : c_law28_CsvEnds C p_l p_picks p_last (fun r0 H2 => ∃ H0, Gh C H2 H0 ∧ K r0 H0) H) : c_law28_CsvEnds C p_l p_picks p_last K H :=
  Spec.gh (Spec.mono h fun _ H2 ⟨r0, hv, H0, hg, hk⟩ => ⟨H0, hg, r0, hv, hk⟩)
def c_law28_CsvRow (C : Ctx) (p_l : Sl) (p_s : Str) (K : Bool → Heap → Prop) (H : Heap) : Prop :=
  Spec Tryd.prog C 8 [slv p_l, sv p_s] H (fun v H2 => ∃ (r0 : Bool), v = .bool r0 ∧ K r0 H2)
theorem c_law28_CsvRow.mono {C : Ctx} {p_l : Sl} {p_s : Str} {K K2 : Bool → Heap → Prop} {H : Heap} (h : c_law28_CsvRow C p_l p_s K H) (hk : ∀ r0 H2, K r0 H2 → K2 r0 H2) : c_law28_CsvRow C p_l p_s K2 H :=
  Spec.mono h fun _ H2 ⟨r0, hv, h2⟩ => ⟨r0, hv, hk r0 H2 h2⟩
theorem c_law28_CsvRow.gh {C : Ctx} {p_l : Sl} {p_s : Str} {K : Bool → Heap → Prop} {H : Heap} (h : c_law28_CsvRow C p_l p_s (fun r0 H2 => ∃ H0, Gh C H2 H0 ∧ K r0 H0) H) : c_law28_CsvRow C p_l p_s K H :=
  Spec.gh (Spec.mono h fun _ H2 ⟨r0, hv, H0, hg, hk⟩ => ⟨H0, hg, r0, hv, hk⟩)
def c_law28_awake (C : Ctx) (K : Bool → Heap → Prop) (H : Heap) : Prop :=
  Spec Tryd.prog C 9 [] H (fun v H2 => ∃ (r0 : Bool), v = .bool r0 ∧ K r0 H2)
theorem c_law28_awake.mono {C : Ctx} {K K2 : Bool → Heap → Prop} {H : Heap} (h : c_law28_awake C  K H) (hk : ∀ r0 H2, K r0 H2 → K2 r0 H2) : c_law28_awake C  K2 H :=
  Spec.mono h fun _ H2 ⟨r0, hv, h2⟩ => ⟨r0, hv, hk r0 H2 h2⟩
theorem c_law28_awake.gh {C : Ctx} {K : Bool → Heap → Prop} {H : Heap} (h : c_law28_awake C  (fun r0 H2 => ∃ H0, Gh C H2 H0 ∧ K r0 H0) H) : c_law28_awake C  K H :=
  Spec.gh (Spec.mono h fun _ H2 ⟨r0, hv, H0, hg, hk⟩ => ⟨H0, hg, r0, hv, hk⟩)
def c_csv_Read (C : Ctx) (p_text : Str) (K : Sl → Int → Int → Heap → Prop) (H : Heap) : Prop :=
  Spec Tryd.prog C 10 [sv p_text] H (fun v H2 => ∃ (r0 : Sl) (r1 : Int) (r2 : Int), v = .tuple #[slv r0, .int .i64 r1, .int .i64 r2] ∧ K r0 r1 r2 H2)
theorem c_csv_Read.mono {C : Ctx} {p_text : Str} {K K2 : Sl → Int → Int → Heap → Prop} {H : Heap} (h : c_csv_Read C p_text K H) (hk : ∀ r0 r1 r2 H2, K r0 r1 r2 H2 → K2 r0 r1 r2 H2) : c_csv_Read C p_text K2 H :=
  Spec.mono h fun _ H2 ⟨r0, r1, r2, hv, h2⟩ => ⟨r0, r1, r2, hv, hk r0 r1 r2 H2 h2⟩
theorem c_csv_Read.gh {C : Ctx} {p_text : Str} {K : Sl → Int → Int → Heap → Prop} {H : Heap} (h : c_csv_Read C p_text (fun r0 r1 r2 H2 => ∃ H0, Gh C H2 H0 ∧ K r0 r1 r2 H0) H) : c_csv_Read C p_text K H :=
  Spec.gh (Spec.mono h fun _ H2 ⟨r0, r1, r2, hv, H0, hg, hk⟩ => ⟨H0, hg, r0, r1, r2, hv, hk⟩)
def c_ref28_Read (C : Ctx) (p_s : Str) (K : Sl → Int → Int → Heap → Prop) (H : Heap) : Prop :=
  Spec Tryd.prog C 11 [sv p_s] H (fun v H2 => ∃ (r0 : Sl) (r1 : Int) (r2 : Int), v = .tuple #[slv r0, .int .i64 r1, .int .i64 r2] ∧ K r0 r1 r2 H2)
theorem c_ref28_Read.mono {C : Ctx} {p_s : Str} {K K2 : Sl → Int → Int → Heap → Prop} {H : Heap} (h : c_ref28_Read C p_s K H) (hk : ∀ r0 r1 r2 H2, K r0 r1 r2 H2 → K2 r0 r1 r2 H2) : c_ref28_Read C p_s K2 H :=
  Spec.mono h fun _ H2 ⟨r0, r1, r2, hv, h2⟩ => ⟨r0, r1, r2, hv, hk r0 r1 r2 H2 h2⟩
theorem c_ref28_Read.gh {C : Ctx} {p_s : Str} {K : Sl → Int → Int → Heap → Prop} {H : Heap} (h : c_ref28_Read C p_s (fun r0 r1 r2 H2 => ∃ H0, Gh C H2 H0 ∧ K r0 r1 r2 H0) H) : c_ref28_Read C p_s K H :=
  Spec.gh (Spec.mono h fun _ H2 ⟨r0, r1, r2, hv, H0, hg, hk⟩ => ⟨H0, hg, r0, r1, r2, hv, hk⟩)
def c_ref28_Same (C : Ctx) (p_a : Sl) (p_b : Sl) (K : Bool → Heap → Prop) (H : Heap) : Prop :=
  Spec Tryd.prog C 12 [slv p_a, slv p_b] H (fun v H2 => ∃ (r0 : Bool), v = .bool r0 ∧ K r0 H2)
theorem c_ref28_Same.mono {C : Ctx} {p_a : Sl} {p_b : Sl} {K K2 : Bool → Heap → Prop} {H : Heap} (h : c_ref28_Same C p_a p_b K H) (hk : ∀ r0 H2, K r0 H2 → K2 r0 H2) : c_ref28_Same C p_a p_b K2 H :=
  Spec.mono h fun _ H2 ⟨r0, hv, h2⟩ => ⟨r0, hv, hk r0 H2 h2⟩
theorem c_ref28_Same.gh {C : Ctx} {p_a : Sl} {p_b : Sl} {K : Bool → Heap → Prop} {H : Heap} (h : c_ref28_Same C p_a p_b (fun r0 H2 => ∃ H0, Gh C H2 H0 ∧ K r0 H0) H) : c_ref28_Same C p_a p_b K H :=
  Spec.gh (Spec.mono h fun _ H2 ⟨r0, hv, H0, hg, hk⟩ => ⟨H0, hg, r0, hv, hk⟩)
def c_law28_large (C : Ctx) (p_l : Sl) (K : Bool → Heap → Prop) (H : Heap) : Prop :=
  Spec Tryd.prog C 13 [slv p_l] H (fun v H2 => ∃ (r0 : Bool), v = .bool r0 ∧ K r0 H2)
theorem c_law28_large.mono {C : Ctx} {p_l : Sl} {K K2 : Bool → Heap → Prop} {H : Heap} (h : c_law28_large C p_l K H) (hk : ∀ r0 H2, K r0 H2 → K2 r0 H2) : c_law28_large C p_l K2 H :=
  Spec.mono h fun _ H2 ⟨r0, hv, h2⟩ => ⟨r0, hv, hk r0 H2 h2⟩
theorem c_law28_large.gh {C : Ctx} {p_l : Sl} {K : Bool → Heap → Prop} {H : Heap} (h : c_law28_large C p_l (fun r0 H2 => ∃ H0, Gh C H2 H0 ∧ K r0 H0) H) : c_law28_large C p_l K H :=
  Spec.gh (Spec.mono h fun _ H2 ⟨r0, hv, H0, hg, hk⟩ => ⟨H0, hg, r0, hv, hk⟩)
def c_law28_own (C : Ctx) (p_l : Sl) (K : Sl → Heap → Prop) (H : Heap) : Prop :=
  Spec Tryd.prog C 14 [slv p_l] H (fun v H2 => ∃ (r0 : Sl), v = slv r0 ∧ K r0 H2)
theorem c_law28_own.mono {C : Ctx} {p_l : Sl} {K K2 : Sl → Heap → Prop} {H : Heap} (h : c_law28_own C p_l K H) (hk : ∀ r0 H2, K r0 H2 → K2 r0 H2) : c_law28_own C p_l K2 H :=
  Spec.mono h fun _ H2 ⟨r0, hv, h2⟩ => ⟨r0, hv, hk r0 H2 h2⟩
theorem c_law28_own.gh {C : Ctx} {p_l : Sl} {K : Sl → Heap → Prop} {H : Heap} (h : c_law28_own C p_l (fun r0 H2 => ∃ H0, Gh C H2 H0 ∧ K r0 H0) H) : c_law28_own C p_l K H :=
  Spec.gh (Spec.mono h fun _ H2 ⟨r0, hv, H0, hg, hk⟩ => ⟨H0, hg, r0, hv, hk⟩)
def c_csv_Write (C : Ctx) (p_l : Sl) (K : Str → Int → Heap → Prop) (H : Heap) : Prop :=
  Spec Tryd.prog C 15 [slv p_l] H (fun v H2 => ∃ (r0 : Str) (r1 : Int), v = .tuple #[sv r0, .int .i64 r1] ∧ K r0 r1 H2)
theorem c_csv_Write.mono {C : Ctx} {p_l : Sl} {K K2 : Str → Int → Heap → Prop} {H : Heap} (h : c_csv_Write C p_l K H) (hk : ∀ r0 r1 H2, K r0 r1 H2 → K2 r0 r1 H2) : c_csv_Write C p_l K2 H :=
  Spec.mono h fun _ H2 ⟨r0, r1, hv, h2⟩ => ⟨r0, r1, hv, hk r0 r1 H2 h2⟩
theorem c_csv_Write.gh {C : Ctx} {p_l : Sl} {K : Str → Int → Heap → Prop} {H : Heap} (h : c_csv_Write C p_l (fun r0 r1 H2 => ∃ H0, Gh C H2 H0 ∧ K r0 r1 H0) H) : c_csv_Write C p_l K H :=
  Spec.gh (Spec.mono h fun _ H2 ⟨r0, r1, hv, H0, hg, hk⟩ => ⟨H0, hg, r0, r1, hv, hk⟩)
def c_ref28_Write (C : Ctx) (p_l : Sl) (K : Str → Int → Heap → Prop) (H : Heap) : Prop :=
  Spec Tryd.prog C 16 [slv p_l] H (fun v H2 => ∃ (r0 : Str) (r1 : Int), v = .tuple #[sv r0, .int .i64 r1] ∧ K r0 r1 H2)
theorem c_ref28_Write.mono {C : Ctx} {p_l : Sl} {K K2 : Str → Int → Heap → Prop} {H : Heap} (h : c_ref28_Write C p_l K H) (hk : ∀ r0 r1 H2, K r0 r1 H2 → K2 r0 r1 H2) : c_ref28_Write C p_l K2 H :=
  Spec.mono h fun _ H2 ⟨r0, r1, hv, h2⟩ => ⟨r0, r1, hv, hk r0 r1 H2 h2⟩
theorem c_ref28_Write.gh {C : Ctx} {p_l : Sl} {K : Str → Int → Heap → Prop} {H : Heap} (h : c_ref28_Write C p_l (fun r0 r1 H2 => ∃ H0, Gh C H2 H0 ∧ K r0 r1 H0) H) : c_ref28_Write C p_l K H :=
  Spec.gh (Spec.mono h fun _ H2 ⟨r0, r1, hv, H0, hg, hk⟩ => ⟨H0, hg, r0, r1, hv, hk⟩)
def c_csv_Read_1 (C : Ctx) (v0 : Nat × Nat) (v1 : Nat × Nat) (v2 : Nat × Nat) (K : Heap → Prop) (H : Heap) : Prop :=
  Spec Tryd.prog C 17 [pv (some v0), pv (some v1), pv (some v2)] H (fun v H2 => v = .tuple #[] ∧ K H2)
theorem c_csv_Read_1.mono {C : Ctx} {v0 : Nat × Nat} {v1 : Nat × Nat} {v2 : Nat × Nat} {K K2 : Heap → Prop} {H : Heap} (h : c_csv_Read_1 C v0 v1 v2 K H) (hk : ∀  H2, K  H2 → K2  H2) : c_csv_Read_1 C v0 v1 v2 K2 H :=
  Spec.mono h fun _ H2 ⟨hv, h2⟩ => ⟨hv, hk H2 h2⟩
theorem c_csv_Read_1.gh {C : Ctx} {v0 : Nat × Nat} {v1 : Nat × Nat} {v2 : Nat × Nat} {K : Heap → Prop} {H : Heap} (h : c_csv_Read_1 C v0 v1 v2 (fun  H2 => ∃ H0, Gh C H2 H0 ∧ K  H0) H) : c_csv_Read_1 C v0 v1 v2 K H :=
  Spec.gh (Spec.mono h fun _ H2 ⟨hv, H0, hg, hk⟩ => ⟨H0, hg, hv, hk⟩)
def c_strings_Builder_String (C : Ctx) (p_b : Option (Nat × Nat)) (K : Str → Heap → Prop) (H : Heap) : Prop :=
  Spec Tryd.prog C 18 [pv p_b] H (fun v H2 => ∃ (r0 : Str), v = sv r0 ∧ K r0 H2)
theorem c_strings_Builder_String.mono {C : Ctx} {p_b : Option (Nat × Nat)} {K K2 : Str → Heap → Prop} {H : Heap} (h : c_strings_Builder_String C p_b K H) (hk : ∀ r0 H2, K r0 H2 → K2 r0 H2) : c_strings_Builder_String C p_b K2 H :=
  Spec.mono h fun _ H2 ⟨r0, hv, h2⟩ => ⟨r0, hv, hk r0 H2 h2⟩
theorem c_strings_Builder_String.gh {C : Ctx} {p_b : Option (Nat × Nat)} {K : Str → Heap → Prop} {H : Heap} (h : c_strings_Builder_String C p_b (fun r0 H2 => ∃ H0, Gh C H2 H0 ∧ K r0 H0) H) : c_strings_Builder_String C p_b K H :=
  Spec.gh (Spec.mono h fun _ H2 ⟨r0, hv, H0, hg, hk⟩ => ⟨H0, hg, r0, hv, hk⟩)
def c_strings_Builder_Reset (C : Ctx) (p_b : Option (Nat × Nat)) (K : Heap → Prop) (H : Heap) : Prop :=
  Spec Tryd.prog C 19 [pv p_b] H (fun v H2 => v = .tuple #[] ∧ K H2)
theorem c_strings_Builder_Reset.mono {C : Ctx} {p_b : Option (Nat × Nat)} {K K2 : Heap → Prop} {H : Heap} (h : c_strings_Builder_Reset C p_b K H) (hk : ∀  H2, K  H2 → K2  H2) : c_strings_Builder_Reset C p_b K2 H :=
  Spec.mono h fun _ H2 ⟨hv, h2⟩ => ⟨hv, hk H2 h2⟩
theorem c_strings_Builder_Reset.gh {C : Ctx} {p_b : Option (Nat × Nat)} {K : Heap → Prop} {H : Heap} (h : c_strings_Builder_Reset C p_b (fun  H2 => ∃ H0, Gh C H2 H0 ∧ K  H0) H) : c_strings_Builder_Reset C p_b K H :=
  Spec.gh (Spec.mono h fun _ H2 ⟨hv, H0, hg, hk⟩ => ⟨H0, hg, hv, hk⟩)
def c_csv_Read_2 (C : Ctx) (v0 : Nat × Nat) (v1 : Nat × Nat) (v2 : Nat × Nat) (v3 : Nat × Nat) (K : Heap → Prop) (H : Heap) : Prop :=
  Spec Tryd.prog C 20 [pv (some v0), pv (some v1), pv (some v2), pv (some v3)] H (fun v H2 => v = .tuple #[] ∧ K H2)
theorem c_csv_Read_2.mono {C : Ctx} {v0 : Nat × Nat} {v1 : Nat × Nat} {v2 : Nat × Nat} {v3 : Nat × Nat} {K K2 : Heap → Prop} {H : Heap} (h : c_csv_Read_2 C v0 v1 v2 v3 K H) (hk : ∀  H2, K  H2 → K2  H2) : c_csv_Read_2 C v0 v1 v2 v3 K2 H :=
  Spec.mono h fun _ H2 ⟨hv, h2⟩ => ⟨hv, hk H2 h2⟩
theorem c_csv_Read_2.gh {C : Ctx} {v0 : Nat × Nat} {v1 : Nat × Nat} {v2 : Nat × Nat} {v3 : Nat × Nat} {K : Heap → Prop} {H : Heap} (h : c_csv_Read_2 C v0 v1 v2 v3 (fun  H2 => ∃ H0, Gh C H2 H0 ∧ K  H0) H) : c_csv_Read_2 C v0 v1 v2 v3 K H :=
  Spec.gh (Spec.mono h fun _ H2 ⟨hv, H0, hg, hk⟩ => ⟨H0, hg, hv, hk⟩)
def c_strings_Builder_WriteByte (C : Ctx) (p_b : Option (Nat × Nat)) (p_c : Int) (K : Value → Heap → Prop) (H : Heap) : Prop :=
  Spec Tryd.prog C 21 [pv p_b, .int .u8 p_c] H (fun v H2 => ∃ (r0 : Value), v = r0 ∧ K r0 H2)
theorem c_strings_Builder_WriteByte.mono {C : Ctx} {p_b : Option (Nat × Nat)} {p_c : Int} {K K2 : Value → Heap → Prop} {H : Heap} (h : c_strings_Builder_WriteByte C p_b p_c K H) (hk : ∀ r0 H2, K r0 H2 → K2 r0 H2) : c_strings_Builder_WriteByte C p_b p_c K2 H :=
  Spec.mono h fun _ H2 ⟨r0, hv, h2⟩ => ⟨r0, hv, hk r0 H2 h2⟩
theorem c_strings_Builder_WriteByte.gh {C : Ctx} {p_b : Option (Nat × Nat)} {p_c : Int} {K : Value → Heap → Prop} {H : Heap} (h : c_strings_Builder_WriteByte C p_b p_c (fun r0 H2 => ∃ H0, Gh C H2 H0 ∧ K r0 H0) H) : c_strings_Builder_WriteByte C p_b p_c K H :=
  Spec.gh (Spec.mono h fun _ H2 ⟨r0, hv, H0, hg, hk⟩ => ⟨H0, hg, r0, hv, hk⟩)
def c_ref28_field (C : Ctx) (p_s : Str) (p_i : Int) (K : Str → Int → Bool → Heap → Prop) (H : Heap) : Prop :=
  Spec Tryd.prog C 22 [sv p_s, .int .i64 p_i] H (fun v H2 => ∃ (r0 : Str) (r1 : Int) (r2 : Bool), v = .tuple #[sv r0, .int .i64 r1, .bool r2] ∧ K r0 r1 r2 H2)
theorem c_ref28_field.mono {C : Ctx} {p_s : Str} {p_i : Int} {K K2 : Str → Int → Bool → Heap → Prop} {H : Heap} (h : c_ref28_field C p_s p_i K H) (hk : ∀ r0 r1 r2 H2, K r0 r1 r2 H2 → K2 r0 r1 r2 H2) : c_ref28_field C p_s p_i K2 H :=
  Spec.mono h fun _ H2 ⟨r0, r1, r2, hv, h2⟩ => ⟨r0, r1, r2, hv, hk r0 r1 r2 H2 h2⟩
theorem c_ref28_field.gh {C : Ctx} {p_s : Str} {p_i : Int} {K : Str → Int → Bool → Heap → Prop} {H : Heap} (h : c_ref28_field C p_s p_i (fun r0 r1 r2 H2 => ∃ H0, Gh C H2 H0 ∧ K r0 r1 r2 H0) H) : c_ref28_field C p_s p_i K H :=
  Spec.gh (Spec.mono h fun _ H2 ⟨r0, r1, r2, hv, H0, hg, hk⟩ => ⟨H0, hg, r0, r1, r2, hv, hk⟩)
def c_ref28_end (C : Ctx) (p_s : Str) (p_i : Int) (K : Int → Heap → Prop) (H : Heap) : Prop :=
  Spec Tryd.prog C 23 [sv p_s, .int .i64 p_i] H (fun v H2 => ∃ (r0 : Int), v = .int .i64 r0 ∧ K r0 H2)
theorem c_ref28_end.mono {C : Ctx} {p_s : Str} {p_i : Int} {K K2 : Int → Heap → Prop} {H : Heap} (h : c_ref28_end C p_s p_i K H) (hk : ∀ r0 H2, K r0 H2 → K2 r0 H2) : c_ref28_end C p_s p_i K2 H :=
  Spec.mono h fun _ H2 ⟨r0, hv, h2⟩ => ⟨r0, hv, hk r0 H2 h2⟩
theorem c_ref28_end.gh {C : Ctx} {p_s : Str} {p_i : Int} {K : Int → Heap → Prop} {H : Heap} (h : c_ref28_end C p_s p_i (fun r0 H2 => ∃ H0, Gh C H2 H0 ∧ K r0 H0) H) : c_ref28_end C p_s p_i K H :=
  Spec.gh (Spec.mono h fun _ H2 ⟨r0, hv, H0, hg, hk⟩ => ⟨H0, hg, r0, hv, hk⟩)
def c_strings_Builder_WriteString (C : Ctx) (p_b : Option (Nat × Nat)) (p_s : Str) (K : Int → Value → Heap → Prop) (H : Heap) : Prop :=
  Spec Tryd.prog C 24 [pv p_b, sv p_s] H (fun v H2 => ∃ (r0 : Int) (r1 : Value), v = .tuple #[.int .i64 r0, r1] ∧ K r0 r1 H2)
theorem c_strings_Builder_WriteString.mono {C : Ctx} {p_b : Option (Nat × Nat)} {p_s : Str} {K K2 : Int → Value → Heap → Prop} {H : Heap} (h : c_strings_Builder_WriteString C p_b p_s K H) (hk : ∀ r0 r1 H2, K r0 r1 H2 → K2 r0 r1 H2) : c_strings_Builder_WriteString C p_b p_s K2 H :=
  Spec.mono h fun _ H2 ⟨r0, r1, hv, h2⟩ => ⟨r0, r1, hv, hk r0 r1 H2 h2⟩
theorem c_strings_Builder_WriteString.gh {C : Ctx} {p_b : Option (Nat × Nat)} {p_s : Str} {K : Int → Value → Heap → Prop} {H : Heap} (h : c_strings_Builder_WriteString C p_b p_s (fun r0 r1 H2 => ∃ H0, Gh C H2 H0 ∧ K r0 r1 H0) H) : c_strings_Builder_WriteString C p_b p_s K H :=
  Spec.gh (Spec.mono h fun _ H2 ⟨r0, r1, hv, H0, hg, hk⟩ => ⟨H0, hg, r0, r1, hv, hk⟩)
def c_csv_own (C : Ctx) (p_s : Str) (K : Str → Heap → Prop) (H : Heap) : Prop :=
  Spec Tryd.prog C 25 [sv p_s] H (fun v H2 => ∃ (r0 : Str), v = sv r0 ∧ K r0 H2)
theorem c_csv_own.mono {C : Ctx} {p_s : Str} {K K2 : Str → Heap → Prop} {H : Heap} (h : c_csv_own C p_s K H) (hk : ∀ r0 H2, K r0 H2 → K2 r0 H2) : c_csv_own C p_s K2 H :=
  Spec.mono h fun _ H2 ⟨r0, hv, h2⟩ => ⟨r0, hv, hk r0 H2 h2⟩
theorem c_csv_own.gh {C : Ctx} {p_s : Str} {K : Str → Heap → Prop} {H : Heap} (h : c_csv_own C p_s (fun r0 H2 => ∃ H0, Gh C H2 H0 ∧ K r0 H0) H) : c_csv_own C p_s K H :=
  Spec.gh (Spec.mono h fun _ H2 ⟨r0, hv, H0, hg, hk⟩ => ⟨H0, hg, r0, hv, hk⟩)
def c_ref28_Own (C : Ctx) (p_s : Str) (K : Str → Heap → Prop) (H : Heap) : Prop :=
  Spec Tryd.prog C 26 [sv p_s] H (fun v H2 => ∃ (r0 : Str), v = sv r0 ∧ K r0 H2)
theorem c_ref28_Own.mono {C : Ctx} {p_s : Str} {K K2 : Str → Heap → Prop} {H : Heap} (h : c_ref28_Own C p_s K H) (hk : ∀ r0 H2, K r0 H2 → K2 r0 H2) : c_ref28_Own C p_s K2 H :=
  Spec.mono h fun _ H2 ⟨r0, hv, h2⟩ => ⟨r0, hv, hk r0 H2 h2⟩
theorem c_ref28_Own.gh {C : Ctx} {p_s : Str} {K : Str → Heap → Prop} {H : Heap} (h : c_ref28_Own C p_s (fun r0 H2 => ∃ H0, Gh C H2 H0 ∧ K r0 H0) H) : c_ref28_Own C p_s K H :=
  Spec.gh (Spec.mono h fun _ H2 ⟨r0, hv, H0, hg, hk⟩ => ⟨H0, hg, r0, hv, hk⟩)
def c_strings_Builder_copyCheck (C : Ctx) (p_b : Option (Nat × Nat)) (K : Heap → Prop) (H : Heap) : Prop :=
  Spec Tryd.prog C 27 [pv p_b] H (fun v H2 => v = .tuple #[] ∧ K H2)
theorem c_strings_Builder_copyCheck.mono {C : Ctx} {p_b : Option (Nat × Nat)} {K K2 : Heap → Prop} {H : Heap} (h : c_strings_Builder_copyCheck C p_b K H) (hk : ∀  H2, K  H2 → K2  H2) : c_strings_Builder_copyCheck C p_b K2 H :=
  Spec.mono h fun _ H2 ⟨hv, h2⟩ => ⟨hv, hk H2 h2⟩
theorem c_strings_Builder_copyCheck.gh {C : Ctx} {p_b : Option (Nat × Nat)} {K : Heap → Prop} {H : Heap} (h : c_strings_Builder_copyCheck C p_b (fun  H2 => ∃ H0, Gh C H2 H0 ∧ K  H0) H) : c_strings_Builder_copyCheck C p_b K H :=
  Spec.gh (Spec.mono h fun _ H2 ⟨hv, H0, hg, hk⟩ => ⟨H0, hg, hv, hk⟩)
def c_strings_Contains (C : Ctx) (p_s : Str) (p_substr : Str) (K : Bool → Heap → Prop) (H : Heap) : Prop :=
  Spec Tryd.prog C 28 [sv p_s, sv p_substr] H (fun v H2 => ∃ (r0 : Bool), v = .bool r0 ∧ K r0 H2)
theorem c_strings_Contains.mono {C : Ctx} {p_s : Str} {p_substr : Str} {K K2 : Bool → Heap → Prop} {H : Heap} (h : c_strings_Contains C p_s p_substr K H) (hk : ∀ r0 H2, K r0 H2 → K2 r0 H2) : c_strings_Contains C p_s p_substr K2 H :=
  Spec.mono h fun _ H2 ⟨r0, hv, h2⟩ => ⟨r0, hv, hk r0 H2 h2⟩
theorem c_strings_Contains.gh {C : Ctx} {p_s : Str} {p_substr : Str} {K : Bool → Heap → Prop} {H : Heap} (h : c_strings_Contains C p_s p_substr (fun r0 H2 => ∃ H0, Gh C H2 H0 ∧ K r0 H0) H) : c_strings_Contains C p_s p_substr K H :=
  Spec.gh (Spec.mono h fun _ H2 ⟨r0, hv, H0, hg, hk⟩ => ⟨H0, hg, r0, hv, hk⟩)
def c_strings_ReplaceAll (C : Ctx) (p_s : Str) (p_old : Str) (p_new : Str) (K : Str → Heap → Prop) (H : Heap) : Prop :=
  Spec Tryd.prog C 29 [sv p_s, sv p_old, sv p_new] H (fun v H2 => ∃ (r0 : Str), v = sv r0 ∧ K r0 H2)
theorem c_strings_ReplaceAll.mono {C : Ctx} {p_s : Str} {p_old : Str} {p_new : Str} {K K2 : Str → Heap → Prop} {H : Heap} (h : c_strings_ReplaceAll C p_s p_old p_new K H) (hk : ∀ r0 H2, K r0 H2 → K2 r0 H2) : c_strings_ReplaceAll C p_s p_old p_new K2 H :=
  Spec.mono h fun _ H2 ⟨r0, hv, h2⟩ => ⟨r0, hv, hk r0 H2 h2⟩
theorem c_strings_ReplaceAll.gh {C : Ctx} {p_s : Str} {p_old : Str} {p_new : Str} {K : Str → Heap → Prop} {H : Heap} (h : c_strings_ReplaceAll C p_s p_old p_new (fun r0 H2 => ∃ H0, Gh C H2 H0 ∧ K r0 H0) H) : c_strings_ReplaceAll C p_s p_old p_new K H :=
  Spec.gh (Spec.mono h fun _ H2 ⟨r0, hv, H0, hg, hk⟩ => ⟨H0, hg, r0, hv, hk⟩)
def c_strings_Index (C : Ctx) (p_s : Str) (p_substr : Str) (K : Int → Heap → Prop) (H : Heap) : Prop :=
  Spec Tryd.prog C 31 [sv p_s, sv p_substr] H (fun v H2 => ∃ (r0 : Int), v = .int .i64 r0 ∧ K r0 H2)
theorem c_strings_Index.mono {C : Ctx} {p_s : Str} {p_substr : Str} {K K2 : Int → Heap → Prop} {H : Heap} (h : c_strings_Index C p_s p_substr K H) (hk : ∀ r0 H2, K r0 H2 → K2 r0 H2) : c_strings_Index C p_s p_substr K2 H :=
  Spec.mono h fun _ H2 ⟨r0, hv, h2⟩ => ⟨r0, hv, hk r0 H2 h2⟩
theorem c_strings_Index.gh {C : Ctx} {p_s : Str} {p_substr : Str} {K : Int → Heap → Prop} {H : Heap} (h : c_strings_Index C p_s p_substr (fun r0 H2 => ∃ H0, Gh C H2 H0 ∧ K r0 H0) H) : c_strings_Index C p_s p_substr K H :=
  Spec.gh (Spec.mono h fun _ H2 ⟨r0, hv, H0, hg, hk⟩ => ⟨H0, hg, r0, hv, hk⟩)
def c_strings_Replace (C : Ctx) (p_s : Str) (p_old : Str) (p_new : Str) (p_n : Int) (K : Str → Heap → Prop) (H : Heap) : Prop :=
  Spec Tryd.prog C 32 [sv p_s, sv p_old, sv p_new, .int .i64 p_n] H (fun v H2 => ∃ (r0 : Str), v = sv r0 ∧ K r0 H2)
theorem c_strings_Replace.mono {C : Ctx} {p_s : Str} {p_old : Str} {p_new : Str} {p_n : Int} {K K2 : Str → Heap → Prop} {H : Heap} (h : c_strings_Replace C p_s p_old p_new p_n K H) (hk : ∀ r0 H2, K r0 H2 → K2 r0 H2) : c_strings_Replace C p_s p_old p_new p_n K2 H :=
  Spec.mono h fun _ H2 ⟨r0, hv, h2⟩ => ⟨r0, hv, hk r0 H2 h2⟩
theorem c_strings_Replace.gh {C : Ctx} {p_s : Str} {p_old : Str} {p_new : Str} {p_n : Int} {K : Str → Heap → Prop} {H : Heap} (h : c_strings_Replace C p_s p_old p_new p_n (fun r0 H2 => ∃ H0, Gh C H2 H0 ∧ K r0 H0) H) : c_strings_Replace C p_s p_old p_new p_n K H :=
  Spec.gh (Spec.mono h fun _ H2 ⟨r0, hv, H0, hg, hk⟩ => ⟨H0, hg, r0, hv, hk⟩)
def c_internal_stringslite_Index (C : Ctx) (p_s : Str) (p_substr : Str) (K : Int → Heap → Prop) (H : Heap) : Prop :=
  Spec Tryd.prog C 33 [sv p_s, sv p_substr] H (fun v H2 => ∃ (r0 : Int), v = .int .i64 r0 ∧ K r0 H2)
theorem c_internal_stringslite_Index.mono {C : Ctx} {p_s : Str} {p_substr : Str} {K K2 : Int → Heap → Prop} {H : Heap} (h : c_internal_stringslite_Index C p_s p_substr K H) (hk : ∀ r0 H2, K r0 H2 → K2 r0 H2) : c_internal_stringslite_Index C p_s p_substr K2 H :=
  Spec.mono h fun _ H2 ⟨r0, hv, h2⟩ => ⟨r0, hv, hk r0 H2 h2⟩
theorem c_internal_stringslite_Index.gh {C : Ctx} {p_s : Str} {p_substr : Str} {K : Int → Heap → Prop} {H : Heap} (h : c_internal_stringslite_Index C p_s p_substr (fun r0 H2 => ∃ H0, Gh C H2 H0 ∧ K r0 H0) H) : c_internal_stringslite_Index C p_s p_substr K H :=
  Spec.gh (Spec.mono h fun _ H2 ⟨r0, hv, H0, hg, hk⟩ => ⟨H0, hg, r0, hv, hk⟩)
def c_strings_Count (C : Ctx) (p_s : Str) (p_substr : Str) (K : Int → Heap → Prop) (H : Heap) : Prop :=
  Spec Tryd.prog C 34 [sv p_s, sv p_substr] H (fun v H2 => ∃ (r0 : Int), v = .int .i64 r0 ∧ K r0 H2)
theorem c_strings_Count.mono {C : Ctx} {p_s : Str} {p_substr : Str} {K K2 : Int → Heap → Prop} {H : Heap} (h : c_strings_Count C p_s p_substr K H) (hk : ∀ r0 H2, K r0 H2 → K2 r0 H2) : c_strings_Count C p_s p_substr K2 H :=
  Spec.mono h fun _ H2 ⟨r0, hv, h2⟩ => ⟨r0, hv, hk r0 H2 h2⟩
theorem c_strings_Count.gh {C : Ctx} {p_s : Str} {p_substr : Str} {K : Int → Heap → Prop} {H : Heap} (h : c_strings_Count C p_s p_substr (fun r0 H2 => ∃ H0, Gh C H2 H0 ∧ K r0 H0) H) : c_strings_Count C p_s p_substr K H :=
  Spec.gh (Spec.mono h fun _ H2 ⟨r0, hv, H0, hg, hk⟩ => ⟨H0, hg, r0, hv, hk⟩)
def c_strings_Builder_Grow (C : Ctx) (p_b : Option (Nat × Nat)) (p_n : Int) (K : Heap → Prop) (H : Heap) : Prop :=
  Spec Tryd.prog C 35 [pv p_b, .int .i64 p_n] H (fun v H2 => v = .tuple #[] ∧ K H2)
theorem c_strings_Builder_Grow.mono {C : Ctx} {p_b : Option (Nat × Nat)} {p_n : Int} {K K2 : Heap → Prop} {H : Heap} (h : c_strings_Builder_Grow C p_b p_n K H) (hk : ∀  H2, K  H2 → K2  H2) : c_strings_Builder_Grow C p_b p_n K2 H :=
  Spec.mono h fun _ H2 ⟨hv, h2⟩ => ⟨hv, hk H2 h2⟩
theorem c_strings_Builder_Grow.gh {C : Ctx} {p_b : Option (Nat × Nat)} {p_n : Int} {K : Heap → Prop} {H : Heap} (h : c_strings_Builder_Grow C p_b p_n (fun  H2 => ∃ H0, Gh C H2 H0 ∧ K  H0) H) : c_strings_Builder_Grow C p_b p_n K H :=
  Spec.gh (Spec.mono h fun _ H2 ⟨hv, H0, hg, hk⟩ => ⟨H0, hg, hv, hk⟩)
def c_unicode_utf8_DecodeRuneInString (C : Ctx) (p_s : Str) (K : Int → Int → Heap → Prop) (H : Heap) : Prop :=
  Spec Tryd.prog C 36 [sv p_s] H (fun v H2 => ∃ (r0 : Int) (r1 : Int), v = .tuple #[.int .i32 r0, .int .i64 r1] ∧ K r0 r1 H2)
theorem c_unicode_utf8_DecodeRuneInString.mono {C : Ctx} {p_s : Str} {K K2 : Int → Int → Heap → Prop} {H : Heap} (h : c_unicode_utf8_DecodeRuneInString C p_s K H) (hk : ∀ r0 r1 H2, K r0 r1 H2 → K2 r0 r1 H2) : c_unicode_utf8_DecodeRuneInString C p_s K2 H :=
  Spec.mono h fun _ H2 ⟨r0, r1, hv, h2⟩ => ⟨r0, r1, hv, hk r0 r1 H2 h2⟩
theorem c_unicode_utf8_DecodeRuneInString.gh {C : Ctx} {p_s : Str} {K : Int → Int → Heap → Prop} {H : Heap} (h : c_unicode_utf8_DecodeRuneInString C p_s (fun r0 r1 H2 => ∃ H0, Gh C H2 H0 ∧ K r0 r1 H0) H) : c_unicode_utf8_DecodeRuneInString C p_s K H :=
  Spec.gh (Spec.mono h fun _ H2 ⟨r0, r1, hv, H0, hg, hk⟩ => ⟨H0, hg, r0, r1, hv, hk⟩)
def c_internal_stringslite_IndexByte (C : Ctx) (p_s : Str) (p_c : Int) (K : Int → Heap → Prop) (H : Heap) : Prop :=
  Spec Tryd.prog C 37 [sv p_s, .int .u8 p_c] H (fun v H2 => ∃ (r0 : Int), v = .int .i64 r0 ∧ K r0 H2)
theorem c_internal_stringslite_IndexByte.mono {C : Ctx} {p_s : Str} {p_c : Int} {K K2 : Int → Heap → Prop} {H : Heap} (h : c_internal_stringslite_IndexByte C p_s p_c K H) (hk : ∀ r0 H2, K r0 H2 → K2 r0 H2) : c_internal_stringslite_IndexByte C p_s p_c K2 H :=
  Spec.mono h fun _ H2 ⟨r0, hv, h2⟩ => ⟨r0, hv, hk r0 H2 h2⟩
theorem c_internal_stringslite_IndexByte.gh {C : Ctx} {p_s : Str} {p_c : Int} {K : Int → Heap → Prop} {H : Heap} (h : c_internal_stringslite_IndexByte C p_s p_c (fun r0 H2 => ∃ H0, Gh C H2 H0 ∧ K r0 H0) H) : c_internal_stringslite_IndexByte C p_s p_c K H :=
  Spec.gh (Spec.mono h fun _ H2 ⟨r0, hv, H0, hg, hk⟩ => ⟨H0, hg, r0, hv, hk⟩)
def c_internal_bytealg_Cutover (C : Ctx) (p_n : Int) (K : Int → Heap → Prop) (H : Heap) : Prop :=
  Spec Tryd.prog C 39 [.int .i64 p_n] H (fun v H2 => ∃ (r0 : Int), v = .int .i64 r0 ∧ K r0 H2)
theorem c_internal_bytealg_Cutover.mono {C : Ctx} {p_n : Int} {K K2 : Int → Heap → Prop} {H : Heap} (h : c_internal_bytealg_Cutover C p_n K H) (hk : ∀ r0 H2, K r0 H2 → K2 r0 H2) : c_internal_bytealg_Cutover C p_n K2 H :=
  Spec.mono h fun _ H2 ⟨r0, hv, h2⟩ => ⟨r0, hv, hk r0 H2 h2⟩
theorem c_internal_bytealg_Cutover.gh {C : Ctx} {p_n : Int} {K : Int → Heap → Prop} {H : Heap} (h : c_internal_bytealg_Cutover C p_n (fun r0 H2 => ∃ H0, Gh C H2 H0 ∧ K r0 H0) H) : c_internal_bytealg_Cutover C p_n K H :=
  Spec.gh (Spec.mono h fun _ H2 ⟨r0, hv, H0, hg, hk⟩ => ⟨H0, hg, r0, hv, hk⟩)
def c_internal_bytealg_IndexRabinKarp_string (C : Ctx) (p_s : Str) (p_sep : Str) (K : Int → Heap → Prop) (H : Heap) : Prop :=
  Spec Tryd.prog C 40 [sv p_s, sv p_sep] H (fun v H2 => ∃ (r0 : Int), v = .int .i64 r0 ∧ K r0 H2)
theorem c_internal_bytealg_IndexRabinKarp_string.mono {C : Ctx} {p_s : Str} {p_sep : Str} {K K2 : Int → Heap → Prop} {H : Heap} (h : c_internal_bytealg_IndexRabinKarp_string C p_s p_sep K H) (hk : ∀ r0 H2, K r0 H2 → K2 r0 H2) : c_internal_bytealg_IndexRabinKarp_string C p_s p_sep K2 H :=
  Spec.mono h fun _ H2 ⟨r0, hv, h2⟩ => ⟨r0, hv, hk r0 H2 h2⟩
theorem c_internal_bytealg_IndexRabinKarp_string.gh {C : Ctx} {p_s : Str} {p_sep : Str} {K : Int → Heap → Prop} {H : Heap} (h : c_internal_bytealg_IndexRabinKarp_string C p_s p_sep (fun r0 H2 => ∃ H0, Gh C H2 H0 ∧ K r0 H0) H) : c_internal_bytealg_IndexRabinKarp_string C p_s p_sep K H :=
  Spec.gh (Spec.mono h fun _ H2 ⟨r0, hv, H0, hg, hk⟩ => ⟨H0, hg, r0, hv, hk⟩)
def c_unicode_utf8_RuneCountInString (C : Ctx) (p_s : Str) (K : Int → Heap → Prop) (H : Heap) : Prop :=
  Spec Tryd.prog C 41 [sv p_s] H (fun v H2 => ∃ (r0 : Int), v = .int .i64 r0 ∧ K r0 H2)
theorem c_unicode_utf8_RuneCountInString.mono {C : Ctx} {p_s : Str} {K K2 : Int → Heap → Prop} {H : Heap} (h : c_unicode_utf8_RuneCountInString C p_s K H) (hk : ∀ r0 H2, K r0 H2 → K2 r0 H2) : c_unicode_utf8_RuneCountInString C p_s K2 H :=
  Spec.mono h fun _ H2 ⟨r0, hv, h2⟩ => ⟨r0, hv, hk r0 H2 h2⟩
theorem c_unicode_utf8_RuneCountInString.gh {C : Ctx} {p_s : Str} {K : Int → Heap → Prop} {H : Heap} (h : c_unicode_utf8_RuneCountInString C p_s (fun r0 H2 => ∃ H0, Gh C H2 H0 ∧ K r0 H0) H) : c_unicode_utf8_RuneCountInString C p_s K H :=
  Spec.gh (Spec.mono h fun _ H2 ⟨r0, hv, H0, hg, hk⟩ => ⟨H0, hg, r0, hv, hk⟩)
def c_strings_Builder_grow (C : Ctx) (p_b : Option (Nat × Nat)) (p_n : Int) (K : Heap → Prop) (H : Heap) : Prop :=
  Spec Tryd.prog C 43 [pv p_b, .int .i64 p_n] H (fun v H2 => v = .tuple #[] ∧ K H2)
theorem c_strings_Builder_grow.mono {C : Ctx} {p_b : Option (Nat × Nat)} {p_n : Int} {K K2 : Heap → Prop} {H : Heap} (h : c_strings_Builder_grow C p_b p_n K H) (hk : ∀  H2, K  H2 → K2  H2) : c_strings_Builder_grow C p_b p_n K2 H :=
  Spec.mono h fun _ H2 ⟨hv, h2⟩ => ⟨hv, hk H2 h2⟩
theorem c_strings_Builder_grow.gh {C : Ctx} {p_b : Option (Nat × Nat)} {p_n : Int} {K : Heap → Prop} {H : Heap} (h : c_strings_Builder_grow C p_b p_n (fun  H2 => ∃ H0, Gh C H2 H0 ∧ K  H0) H) : c_strings_Builder_grow C p_b p_n K H :=
  Spec.gh (Spec.mono h fun _ H2 ⟨hv, H0, hg, hk⟩ => ⟨H0, hg, hv, hk⟩)
def c_unicode_utf8_decodeRuneInStringSlow (C : Ctx) (p_s : Str) (K : Int → Int → Heap → Prop) (H : Heap) : Prop :=
  Spec Tryd.prog C 44 [sv p_s] H (fun v H2 => ∃ (r0 : Int) (r1 : Int), v = .tuple #[.int .i32 r0, .int .i64 r1] ∧ K r0 r1 H2)
theorem c_unicode_utf8_decodeRuneInStringSlow.mono {C : Ctx} {p_s : Str} {K K2 : Int → Int → Heap → Prop} {H : Heap} (h : c_unicode_utf8_decodeRuneInStringSlow C p_s K H) (hk : ∀ r0 r1 H2, K r0 r1 H2 → K2 r0 r1 H2) : c_unicode_utf8_decodeRuneInStringSlow C p_s K2 H :=
  Spec.mono h fun _ H2 ⟨r0, r1, hv, h2⟩ => ⟨r0, r1, hv, hk r0 r1 H2 h2⟩
theorem c_unicode_utf8_decodeRuneInStringSlow.gh {C : Ctx} {p_s : Str} {K : Int → Int → Heap → Prop} {H : Heap} (h : c_unicode_utf8_decodeRuneInStringSlow C p_s (fun r0 r1 H2 => ∃ H0, Gh C H2 H0 ∧ K r0 r1 H0) H) : c_unicode_utf8_decodeRuneInStringSlow C p_s K H :=
  Spec.gh (Spec.mono h fun _ H2 ⟨r0, r1, hv, H0, hg, hk⟩ => ⟨H0, hg, r0, r1, hv, hk⟩)
def c_internal_bytealg_hashStr_string (C : Ctx) (p_sep : Str) (K : Int → Int → Heap → Prop) (H : Heap) : Prop :=
  Spec Tryd.prog C 46 [sv p_sep] H (fun v H2 => ∃ (r0 : Int) (r1 : Int), v = .tuple #[.int .u32 r0, .int .u32 r1] ∧ K r0 r1 H2)
theorem c_internal_bytealg_hashStr_string.mono {C : Ctx} {p_sep : Str} {K K2 : Int → Int → Heap → Prop} {H : Heap} (h : c_internal_bytealg_hashStr_string C p_sep K H) (hk : ∀ r0 r1 H2, K r0 r1 H2 → K2 r0 r1 H2) : c_internal_bytealg_hashStr_string C p_sep K2 H :=
  Spec.mono h fun _ H2 ⟨r0, r1, hv, h2⟩ => ⟨r0, r1, hv, hk r0 r1 H2 h2⟩
theorem c_internal_bytealg_hashStr_string.gh {C : Ctx} {p_sep : Str} {K : Int → Int → Heap → Prop} {H : Heap} (h : c_internal_bytealg_hashStr_string C p_sep (fun r0 r1 H2 => ∃ H0, Gh C H2 H0 ∧ K r0 r1 H0) H) : c_internal_bytealg_hashStr_string C p_sep K H :=
  Spec.gh (Spec.mono h fun _ H2 ⟨r0, r1, hv, H0, hg, hk⟩ => ⟨H0, hg, r0, r1, hv, hk⟩)



def sh_law28_CsvReads (C : Ctx) (p_s : Str) (K : Bool → Heap → Prop) (H : Heap) : Prop :=
  ift (decide (((List.length p_s : Int) : Int) > 5000))
 (c_law28_awake C (fun r2 H3 =>
 K r2 H3) H)
 (c_csv_Read C p_s (fun r4 r5 r6 H7 =>
 c_ref28_Read C p_s (fun r8 r9 r10 H11 =>
 jn (α := Bool) (fun b13 H19 =>
 ift b13
 (K false H19)
 (lp (α := Int) 0 H19 (fun x21 J22 H23 =>
 ift (decide ((x21 : Int) < (Sl.len r4 : Int)))
 (lp (α := Int) 0 H23 (fun x25 J26 H27 =>
 ixa r4 x21 fun p28 =>
 ldL H27 (p28.1, p28.2 + (x21 : Int).toNat * 1) fun x33 =>
 ift (decide ((x25 : Int) < (Sl.len x33 : Int)))
 (ixa r4 x21 fun p36 =>
 ldL H27 (p36.1, p36.2 + (x21 : Int).toNat * 1) fun x41 =>
 ixa x41 x25 fun p43 =>
 st (p43.1, p43.2 + (x25 : Int).toNat * 1) (sv [115, 112, 111, 105, 108, 116]) (fun H48 =>
 J26 (w .i64 (x25 + 1)) H48) H27)
 (J22 (w .i64 (x21 + 1)) H27)))
 (c_csv_Read C p_s (fun r49 r50 r51 H52 =>
 c_ref28_Same C r49 r8 (fun r53 H54 =>
 jn (α := Bool) (fun b55 H61 =>
 K b55 H61)
 (fun J56 => ift r53
 (c_law28_awake C (fun r59 H60 =>
 J56 r59 H60) H54)
 (J56 false H54))) H52) H23))))
 (fun J14 => ift (((r6 : Int) != r10) || ((r5 : Int) != r9))
 (J14 true H11)
 (c_ref28_Same C r4 r8 (fun r17 H18 =>
 J14 (!r17) H18) H11))) H7) H)

theorem ad_law28_CsvReads (C : Ctx) (p_s : Str) (K : Bool → Heap → Prop) (H : Heap) (h : sh_law28_CsvReads C p_s K H) : c_law28_CsvReads C p_s K H := by
  refine Spec.enter Tryd.func3 rfl Tryd.ntmps3 rfl ?_
  refine GC.sub [(0, sv p_s)] ⟨rfl, trivial⟩ ?_
  refine GC.seq ?_
  refine GC.region ?_
  refine GL.val trivial rfl (OV.assign (v := .bool false) rfl) ?_
  refine GL.nil ?_
  refine GC.seq ?_
  refine GC.seq ?_
  refine GC.region ?_
  refine GL.val trivial rfl (OV.move (v := sv p_s) rfl) ?_
  refine GL.val trivial rfl (OV.lenStr (s := p_s) rfl rfl) ?_
  refine GL.val trivial rfl (OV.ibin (v := .bool (decide (((List.length p_s : Int) : Int) > 5000))) rfl rfl rfl) ?_
  refine GL.nil ?_
  refine GC.cond (b := decide (((List.length p_s : Int) : Int) > 5000)) rfl (fun hc1 => ?_) (fun hc1 => ?_)
  · replace h := And.left h hc1
    refine GC.seq ?_
    refine GC.region ?_
    refine GL.call h trivial rfl ok_law28_awake (vs := []) rfl ?_
    rintro _ H3 ⟨r2, rfl, h⟩
    refine GL.val trivial rfl (OV.assign (v := .bool r2) rfl) ?_
    refine GL.nil ?_
    exact GC.ret (fun _ _ hf hs => post_tmp1 rfl rfl hf hs ⟨r2, rfl, h⟩)
  · replace h := And.right h hc1
    refine GC.skip ?_
    refine GC.seq ?_
    refine GC.region ?_
    refine GL.val trivial rfl (OV.move (v := sv p_s) rfl) ?_
    refine GL.call h trivial rfl ok_csv_Read (vs := [sv p_s]) rfl ?_
    rintro _ H7 ⟨r4, r5, r6, rfl, h⟩
    refine GL.val trivial rfl (OV.move (v := .tuple #[slv r4, .int .i64 r5, .int .i64 r6]) rfl) ?_
    refine GL.val trivial rfl (OV.extract (v := slv r4) rfl rfl) ?_
    refine GL.val trivial rfl (OV.extract (v := .int .i64 r5) rfl rfl) ?_
    refine GL.val trivial rfl (OV.extract (v := .int .i64 r6) rfl rfl) ?_
    refine GL.val trivial rfl (OV.assign (v := slv r4) rfl) ?_
    refine GL.val trivial rfl (OV.assign (v := .int .i64 r5) rfl) ?_
    refine GL.val trivial rfl (OV.assign (v := .int .i64 r6) rfl) ?_
    refine GL.nil ?_
    refine GC.seq ?_
    refine GC.region ?_
    refine GL.val trivial rfl (OV.move (v := sv p_s) rfl) ?_
    refine GL.call h trivial rfl ok_ref28_Read (vs := [sv p_s]) rfl ?_
    rintro _ H11 ⟨r8, r9, r10, rfl, h⟩
    refine GL.val trivial rfl (OV.move (v := .tuple #[slv r8, .int .i64 r9, .int .i64 r10]) rfl) ?_
    refine GL.val trivial rfl (OV.extract (v := slv r8) rfl rfl) ?_
    refine GL.val trivial rfl (OV.extract (v := .int .i64 r9) rfl rfl) ?_
    refine GL.val trivial rfl (OV.extract (v := .int .i64 r10) rfl rfl) ?_
    refine GL.val trivial rfl (OV.assign (v := slv r8) rfl) ?_
    refine GL.val trivial rfl (OV.assign (v := .int .i64 r9) rfl) ?_
    refine GL.val trivial rfl (OV.assign (v := .int .i64 r10) rfl) ?_
    refine GL.nil ?_
    refine GC.seq ?_
    refine GC.seq ?_
    refine GC.region ?_
    refine GL.val trivial rfl (OV.move (v := .int .i64 r6) rfl) ?_
    refine GL.val trivial rfl (OV.move (v := .int .i64 r10) rfl) ?_
    refine GL.val trivial rfl (OV.ibin (v := .bool ((r6 : Int) != r10)) rfl rfl rfl) ?_
    refine GL.val trivial rfl (OV.move (v := .bool ((r6 : Int) != r10)) rfl) ?_
    refine GL.cut0 4 [(37, .bool (((r6 : Int) != r10) || ((r5 : Int) != r9))), (0, sv p_s), (3, slv r4), (6, slv r8)] ?_ ?_
    · rcases Bool.eq_false_or_eq_true ((r6 : Int) != r10) with hc12 | hc12
      · skip
        refine GL.skip ⟨_, rfl, .inl ⟨_, rfl, hc12⟩⟩ rfl ?_
        refine GL.skip ⟨_, rfl, .inl ⟨_, rfl, hc12⟩⟩ rfl ?_
        refine GL.skip ⟨_, rfl, .inl ⟨_, rfl, hc12⟩⟩ rfl ?_
        refine GL.val trivial rfl (OV.pickT (b := (r6 : Int) != r10) (v := .bool true) rfl hc12 rfl) ?_
        exact GL.jump0 (fun _ _ h => h) () rfl ⟨(by rw [hc12]; rfl), rfl, rfl, rfl, trivial⟩
      · skip
        refine GL.val ⟨_, _, rfl, rfl, hc12⟩ rfl (OV.move (v := .int .i64 r5) rfl) ?_
        refine GL.val ⟨_, _, rfl, rfl, hc12⟩ rfl (OV.move (v := .int .i64 r9) rfl) ?_
        refine GL.val ⟨_, _, rfl, rfl, hc12⟩ rfl (OV.ibin (v := .bool ((r5 : Int) != r9)) rfl rfl rfl) ?_
        refine GL.val trivial rfl (OV.pickF (b := (r6 : Int) != r10) (v := .bool ((r5 : Int) != r9)) rfl hc12 rfl) ?_
        exact GL.jump0 (fun _ _ h => h) () rfl ⟨(by rw [hc12]; rfl), rfl, rfl, rfl, trivial⟩
    refine GL.val trivial rfl (OV.move (v := .bool (((r6 : Int) != r10) || ((r5 : Int) != r9))) rfl) ?_
    obtain ⟨J14, h, hR15⟩ := h
    refine GL.cut (α := Bool) 5 J14 (fun b13 => [(43, .bool b13), (0, sv p_s), (3, slv r4), (6, slv r8)]) ?_ ?_
    · rcases Bool.eq_false_or_eq_true (((r6 : Int) != r10) || ((r5 : Int) != r9)) with hc16 | hc16
      · skip
        replace h := And.left h hc16
        refine GL.skip ⟨_, rfl, .inl ⟨_, rfl, hc16⟩⟩ rfl ?_
        refine GL.skip ⟨_, rfl, .inl ⟨_, rfl, hc16⟩⟩ rfl ?_
        refine GL.skip ⟨_, rfl, .inl ⟨_, rfl, hc16⟩⟩ rfl ?_
        refine GL.skip ⟨_, rfl, .inl ⟨_, rfl, hc16⟩⟩ rfl ?_
        refine GL.val trivial rfl (OV.pickT (b := ((r6 : Int) != r10) || ((r5 : Int) != r9)) (v := .bool true) rfl hc16 rfl) ?_
        exact GL.jump (fun _ _ h => h) true h ⟨rfl, rfl, rfl, rfl, trivial⟩
      · skip
        replace h := And.right h hc16
        refine GL.val ⟨_, _, rfl, rfl, hc16⟩ rfl (OV.move (v := slv r4) rfl) ?_
        refine GL.val ⟨_, _, rfl, rfl, hc16⟩ rfl (OV.move (v := slv r8) rfl) ?_
        refine GL.call h ⟨_, _, rfl, rfl, hc16⟩ rfl ok_ref28_Same (vs := [slv r4, slv r8]) rfl ?_
        rintro _ H18 ⟨r17, rfl, h⟩
        refine GL.val ⟨_, _, rfl, rfl, hc16⟩ rfl (OV.not rfl) ?_
        refine GL.val trivial rfl (OV.pickF (b := ((r6 : Int) != r10) || ((r5 : Int) != r9)) (v := .bool (!r17)) rfl hc16 rfl) ?_
        exact GL.jump (fun _ _ h => h) (!r17) h ⟨rfl, rfl, rfl, rfl, trivial⟩
    intro b13 H19 h
    replace h := hR15 b13 H19 h
    refine GL.nil ?_
    refine GC.cond (b := b13) rfl (fun hc20 => ?_) (fun hc20 => ?_)
    · replace h := And.left h hc20
      refine GC.seq ?_
      refine GC.region ?_
      refine GL.val trivial rfl (OV.assign (v := .bool false) rfl) ?_
      refine GL.nil ?_
      exact GC.ret (fun _ _ hf hs => post_tmp1 rfl rfl hf hs ⟨false, rfl, h⟩)
    · replace h := And.right h hc20
      refine GC.skip ?_
      refine GC.seq ?_
      refine GC.seq ?_
      refine GC.region ?_
      refine GL.val trivial rfl (OV.assign (v := .int .i64 0) rfl) ?_
      refine GL.nil ?_
      refine GC.block ?_
      refine GC.loop (α := Int) h (fun x21 => [(9, .int .i64 x21), (0, sv p_s), (3, slv r4), (6, slv r8)]) ⟨rfl, rfl, rfl, rfl, trivial⟩ ?_
      intro x21 H23 J22 h
      refine GC.seq ?_
      refine GC.seq ?_
      refine GC.region ?_
      refine GL.val trivial rfl (OV.move (v := .int .i64 x21) rfl) ?_
      refine GL.val trivial rfl (OV.move (v := slv r4) rfl) ?_
      refine GL.val trivial rfl (OV.lenSl (s := r4) rfl rfl) ?_
      refine GL.val trivial rfl (OV.ibin (v := .bool (decide ((x21 : Int) < (Sl.len r4 : Int)))) rfl rfl rfl) ?_
      refine GL.nil ?_
      refine GC.cond (b := decide ((x21 : Int) < (Sl.len r4 : Int))) rfl (fun hc24 => ?_) (fun hc24 => ?_)
      · replace h := And.left h hc24
        refine GC.skip ?_
        refine GC.seq ?_
        refine GC.block ?_
        refine GC.seq ?_
        refine GC.region ?_
        refine GL.val trivial rfl (OV.assign (v := .int .i64 0) rfl) ?_
        refine GL.nil ?_
        refine GC.block ?_
        refine GC.loop (α := Int) h (fun x25 => [(10, .int .i64 x25), (0, sv p_s), (3, slv r4), (6, slv r8), (9, .int .i64 x21)]) ⟨rfl, rfl, rfl, rfl, rfl, trivial⟩ ?_
        intro x25 H27 J26 h
        refine GC.seq ?_
        refine GC.seq ?_
        refine GC.region ?_
        refine GL.val trivial rfl (OV.move (v := .int .i64 x25) rfl) ?_
        refine GL.val trivial rfl (OV.move (v := slv r4) rfl) ?_
        refine GL.val trivial rfl (OV.move (v := .int .i64 x21) rfl) ?_
        obtain ⟨p28, ha29, hb30, hc31, hd32, h⟩ := h
        refine GL.val trivial rfl (OV.indexAddr (s := r4) rfl rfl rfl rfl ha29 hb30 hc31 hd32) ?_
        obtain ⟨x33, hr34, h⟩ := h
        refine GL.val trivial rfl (OV.load (p := (p28.1, p28.2 + (x21 : Int).toNat * 1)) rfl rfl hr34) ?_
        refine GL.val trivial rfl (OV.lenSl (s := x33) rfl rfl) ?_
        refine GL.val trivial rfl (OV.ibin (v := .bool (decide ((x25 : Int) < (Sl.len x33 : Int)))) rfl rfl rfl) ?_
        refine GL.nil ?_
        refine GC.cond (b := decide ((x25 : Int) < (Sl.len x33 : Int))) rfl (fun hc35 => ?_) (fun hc35 => ?_)
        · replace h := And.left h hc35
          refine GC.skip ?_
          refine GC.seq ?_
          refine GC.block ?_
          refine GC.region ?_
          refine GL.val trivial rfl (OV.move (v := slv r4) rfl) ?_
          refine GL.val trivial rfl (OV.move (v := .int .i64 x21) rfl) ?_
          obtain ⟨p36, ha37, hb38, hc39, hd40, h⟩ := h
          refine GL.val trivial rfl (OV.indexAddr (s := r4) rfl rfl rfl rfl ha37 hb38 hc39 hd40) ?_
          obtain ⟨x41, hr42, h⟩ := h
          refine GL.val trivial rfl (OV.load (p := (p36.1, p36.2 + (x21 : Int).toNat * 1)) rfl rfl hr42) ?_
          refine GL.val trivial rfl (OV.move (v := .int .i64 x25) rfl) ?_
          obtain ⟨p43, ha44, hb45, hc46, hd47, h⟩ := h
          refine GL.val trivial rfl (OV.indexAddr (s := x41) rfl rfl rfl rfl ha44 hb45 hc46 hd47) ?_
          refine GL.store (p := (p43.1, p43.2 + (x25 : Int).toNat * 1)) (v := sv [115, 112, 111, 105, 108, 116]) h trivial rfl rfl rfl rfl ?_
          intro H48 h
          refine GL.nil_to (fun _ _ h => h) ?_
          refine GC.region ?_
          refine GL.val trivial rfl (OV.move (v := .int .i64 x25) rfl) ?_
          refine GL.val trivial rfl (OV.ibin (v := .int .i64 (w .i64 (x25 + 1))) rfl rfl rfl) ?_
          refine GL.val trivial rfl (OV.assign (v := .int .i64 (w .i64 (x25 + 1))) rfl) ?_
          exact GL.jump (fun _ _ h => h) (w .i64 (x25 + 1)) h ⟨rfl, rfl, rfl, rfl, rfl, trivial⟩
        · replace h := And.right h hc35
          refine GC.exit_to (fun _ _ h => h) ?_
          refine GC.region ?_
          refine GL.val trivial rfl (OV.move (v := .int .i64 x21) rfl) ?_
          refine GL.val trivial rfl (OV.ibin (v := .int .i64 (w .i64 (x21 + 1))) rfl rfl rfl) ?_
          refine GL.val trivial rfl (OV.assign (v := .int .i64 (w .i64 (x21 + 1))) rfl) ?_
          exact GL.jump (fun _ _ h => h) (w .i64 (x21 + 1)) h ⟨rfl, rfl, rfl, rfl, trivial⟩
      · replace h := And.right h hc24
        refine GC.exit_to (fun _ _ h => h) ?_
        refine GC.seq ?_
        refine GC.region ?_
        refine GL.val trivial rfl (OV.move (v := sv p_s) rfl) ?_
        refine GL.call h trivial rfl ok_csv_Read (vs := [sv p_s]) rfl ?_
        rintro _ H52 ⟨r49, r50, r51, rfl, h⟩
        refine GL.val trivial rfl (OV.move (v := .tuple #[slv r49, .int .i64 r50, .int .i64 r51]) rfl) ?_
        refine GL.val trivial rfl (OV.extract (v := slv r49) rfl rfl) ?_
        refine GL.val trivial rfl (OV.extract (v := .int .i64 r50) rfl rfl) ?_
        refine GL.val trivial rfl (OV.extract (v := .int .i64 r51) rfl rfl) ?_
        refine GL.val trivial rfl (OV.assign (v := slv r49) rfl) ?_
        refine GL.val trivial rfl (OV.assign (v := .int .i64 r50) rfl) ?_
        refine GL.val trivial rfl (OV.assign (v := .int .i64 r51) rfl) ?_
        refine GL.nil ?_
        refine GC.seq ?_
        refine GC.region ?_
        refine GL.val trivial rfl (OV.move (v := slv r49) rfl) ?_
        refine GL.val trivial rfl (OV.move (v := slv r8) rfl) ?_
        refine GL.call h trivial rfl ok_ref28_Same (vs := [slv r49, slv r8]) rfl ?_
        rintro _ H54 ⟨r53, rfl, h⟩
        refine GL.val trivial rfl (OV.move (v := .bool r53) rfl) ?_
        obtain ⟨J56, h, hR57⟩ := h
        refine GL.cut (α := Bool) 2 J56 (fun b55 => [(76, .bool b55)]) ?_ ?_
        · rcases Bool.eq_false_or_eq_true r53 with hc58 | hc58
          · skip
            replace h := And.left h hc58
            refine GL.call h ⟨_, _, rfl, rfl, hc58⟩ rfl ok_law28_awake (vs := []) rfl ?_
            rintro _ H60 ⟨r59, rfl, h⟩
            refine GL.val trivial rfl (OV.pickT (b := r53) (v := .bool r59) rfl hc58 rfl) ?_
            exact GL.jump (fun _ _ h => h) r59 h ⟨rfl, trivial⟩
          · skip
            replace h := And.right h hc58
            refine GL.skip ⟨_, rfl, .inl ⟨_, rfl, hc58⟩⟩ rfl ?_
            refine GL.val trivial rfl (OV.pickF (b := r53) (v := .bool false) rfl hc58 rfl) ?_
            exact GL.jump (fun _ _ h => h) false h ⟨rfl, trivial⟩
        intro b55 H61 h
        replace h := hR57 b55 H61 h
        refine GL.val trivial rfl (OV.assign (v := .bool b55) rfl) ?_
        refine GL.nil ?_
        exact GC.ret (fun _ _ hf hs => post_tmp1 rfl rfl hf hs ⟨b55, rfl, h⟩)

def sh_law28_CsvWrites (C : Ctx) (p_l : Sl) (K : Bool → Heap → Prop) (H : Heap) : Prop :=
  c_law28_large C p_l (fun r1 H2 =>
 ift r1
 (c_law28_awake C (fun r4 H5 =>
 K r4 H5) H2)
 (c_law28_own C p_l (fun r6 H7 =>
 c_csv_Write C r6 (fun r8 r9 H10 =>
 c_ref28_Write C p_l (fun r11 r12 H13 =>
 jn (α := Bool) (fun b15 H21 =>
 jn (α := Bool) (fun b22 H28 =>
 K b22 H28)
 (fun J23 => ift b15
 (c_law28_awake C (fun r26 H27 =>
 J23 r26 H27) H21)
 (J23 false H21)))
 (fun J16 => ift ((r8 == r11) && ((r9 : Int) == r12))
 (c_ref28_Same C r6 p_l (fun r19 H20 =>
 J16 r19 H20) H13)
 (J16 false H13))) H10) H7) H2)) H

theorem ad_law28_CsvWrites (C : Ctx) (p_l : Sl) (K : Bool → Heap → Prop) (H : Heap) (h : sh_law28_CsvWrites C p_l K H) : c_law28_CsvWrites C p_l K H := by
  refine Spec.enter Tryd.func4 rfl Tryd.ntmps4 rfl ?_
  refine GC.sub [(0, slv p_l)] ⟨rfl, trivial⟩ ?_
  refine GC.seq ?_
  refine GC.region ?_
  refine GL.val trivial rfl (OV.assign (v := .bool false) rfl) ?_
  refine GL.nil ?_
  refine GC.seq ?_
  refine GC.seq ?_
  refine GC.region ?_
  refine GL.val trivial rfl (OV.move (v := slv p_l) rfl) ?_
  refine GL.call h trivial rfl ok_law28_large (vs := [slv p_l]) rfl ?_
  rintro _ H2 ⟨r1, rfl, h⟩
  refine GL.nil ?_
  refine GC.cond (b := r1) rfl (fun hc3 => ?_) (fun hc3 => ?_)
  · replace h := And.left h hc3
    refine GC.seq ?_
    refine GC.region ?_
    refine GL.call h trivial rfl ok_law28_awake (vs := []) rfl ?_
    rintro _ H5 ⟨r4, rfl, h⟩
    refine GL.val trivial rfl (OV.assign (v := .bool r4) rfl) ?_
    refine GL.nil ?_
    exact GC.ret (fun _ _ hf hs => post_tmp1 rfl rfl hf hs ⟨r4, rfl, h⟩)
  · replace h := And.right h hc3
    refine GC.skip ?_
    refine GC.seq ?_
    refine GC.region ?_
    refine GL.val trivial rfl (OV.move (v := slv p_l) rfl) ?_
    refine GL.call h trivial rfl ok_law28_own (vs := [slv p_l]) rfl ?_
    rintro _ H7 ⟨r6, rfl, h⟩
    refine GL.val trivial rfl (OV.assign (v := slv r6) rfl) ?_
    refine GL.nil ?_
    refine GC.seq ?_
    refine GC.region ?_
    refine GL.val trivial rfl (OV.move (v := slv r6) rfl) ?_
    refine GL.call h trivial rfl ok_csv_Write (vs := [slv r6]) rfl ?_
    rintro _ H10 ⟨r8, r9, rfl, h⟩
    refine GL.val trivial rfl (OV.move (v := .tuple #[sv r8, .int .i64 r9]) rfl) ?_
    refine GL.val trivial rfl (OV.extract (v := sv r8) rfl rfl) ?_
    refine GL.val trivial rfl (OV.extract (v := .int .i64 r9) rfl rfl) ?_
    refine GL.val trivial rfl (OV.assign (v := sv r8) rfl) ?_
    refine GL.val trivial rfl (OV.assign (v := .int .i64 r9) rfl) ?_
    refine GL.nil ?_
    refine GC.seq ?_
    refine GC.region ?_
    refine GL.val trivial rfl (OV.move (v := slv p_l) rfl) ?_
    refine GL.call h trivial rfl ok_ref28_Write (vs := [slv p_l]) rfl ?_
    rintro _ H13 ⟨r11, r12, rfl, h⟩
    refine GL.val trivial rfl (OV.move (v := .tuple #[sv r11, .int .i64 r12]) rfl) ?_
    refine GL.val trivial rfl (OV.extract (v := sv r11) rfl rfl) ?_
    refine GL.val trivial rfl (OV.extract (v := .int .i64 r12) rfl rfl) ?_
    refine GL.val trivial rfl (OV.assign (v := sv r11) rfl) ?_
    refine GL.val trivial rfl (OV.assign (v := .int .i64 r12) rfl) ?_
    refine GL.nil ?_
    refine GC.seq ?_
    refine GC.region ?_
    refine GL.val trivial rfl (OV.move (v := sv r8) rfl) ?_
    refine GL.val trivial rfl (OV.move (v := sv r11) rfl) ?_
    refine GL.val trivial rfl (OV.sbin (a := r8) (b := r11) (v := .bool (r8 == r11)) rfl rfl rfl) ?_
    refine GL.val trivial rfl (OV.move (v := .bool (r8 == r11)) rfl) ?_
    refine GL.cut0 4 [(30, .bool ((r8 == r11) && ((r9 : Int) == r12))), (0, slv p_l), (3, slv r6)] ?_ ?_
    · rcases Bool.eq_false_or_eq_true (r8 == r11) with hc14 | hc14
      · skip
        refine GL.val ⟨_, _, rfl, rfl, hc14⟩ rfl (OV.move (v := .int .i64 r9) rfl) ?_
        refine GL.val ⟨_, _, rfl, rfl, hc14⟩ rfl (OV.move (v := .int .i64 r12) rfl) ?_
        refine GL.val ⟨_, _, rfl, rfl, hc14⟩ rfl (OV.ibin (v := .bool ((r9 : Int) == r12)) rfl rfl rfl) ?_
        refine GL.val trivial rfl (OV.pickT (b := r8 == r11) (v := .bool ((r9 : Int) == r12)) rfl hc14 rfl) ?_
        exact GL.jump0 (fun _ _ h => h) () rfl ⟨(by rw [hc14]; rfl), rfl, rfl, trivial⟩
      · skip
        refine GL.skip ⟨_, rfl, .inl ⟨_, rfl, hc14⟩⟩ rfl ?_
        refine GL.skip ⟨_, rfl, .inl ⟨_, rfl, hc14⟩⟩ rfl ?_
        refine GL.skip ⟨_, rfl, .inl ⟨_, rfl, hc14⟩⟩ rfl ?_
        refine GL.val trivial rfl (OV.pickF (b := r8 == r11) (v := .bool false) rfl hc14 rfl) ?_
        exact GL.jump0 (fun _ _ h => h) () rfl ⟨(by rw [hc14]; rfl), rfl, rfl, trivial⟩
    refine GL.val trivial rfl (OV.move (v := .bool ((r8 == r11) && ((r9 : Int) == r12))) rfl) ?_
    obtain ⟨J16, h, hR17⟩ := h
    refine GL.cut (α := Bool) 4 J16 (fun b15 => [(35, .bool b15)]) ?_ ?_
    · rcases Bool.eq_false_or_eq_true ((r8 == r11) && ((r9 : Int) == r12)) with hc18 | hc18
      · skip
        replace h := And.left h hc18
        refine GL.val ⟨_, _, rfl, rfl, hc18⟩ rfl (OV.move (v := slv r6) rfl) ?_
        refine GL.val ⟨_, _, rfl, rfl, hc18⟩ rfl (OV.move (v := slv p_l) rfl) ?_
        refine GL.call h ⟨_, _, rfl, rfl, hc18⟩ rfl ok_ref28_Same (vs := [slv r6, slv p_l]) rfl ?_
        rintro _ H20 ⟨r19, rfl, h⟩
        refine GL.val trivial rfl (OV.pickT (b := (r8 == r11) && ((r9 : Int) == r12)) (v := .bool r19) rfl hc18 rfl) ?_
        exact GL.jump (fun _ _ h => h) r19 h ⟨rfl, trivial⟩
      · skip
        replace h := And.right h hc18
        refine GL.skip ⟨_, rfl, .inl ⟨_, rfl, hc18⟩⟩ rfl ?_
        refine GL.skip ⟨_, rfl, .inl ⟨_, rfl, hc18⟩⟩ rfl ?_
        refine GL.skip ⟨_, rfl, .inl ⟨_, rfl, hc18⟩⟩ rfl ?_
        refine GL.val trivial rfl (OV.pickF (b := (r8 == r11) && ((r9 : Int) == r12)) (v := .bool false) rfl hc18 rfl) ?_
        exact GL.jump (fun _ _ h => h) false h ⟨rfl, trivial⟩
    intro b15 H21 h
    replace h := hR17 b15 H21 h
    refine GL.val trivial rfl (OV.move (v := .bool b15) rfl) ?_
    obtain ⟨J23, h, hR24⟩ := h
    refine GL.cut (α := Bool) 2 J23 (fun b22 => [(38, .bool b22)]) ?_ ?_
    · rcases Bool.eq_false_or_eq_true b15 with hc25 | hc25
      · skip
        replace h := And.left h hc25
        refine GL.call h ⟨_, _, rfl, rfl, hc25⟩ rfl ok_law28_awake (vs := []) rfl ?_
        rintro _ H27 ⟨r26, rfl, h⟩
        refine GL.val trivial rfl (OV.pickT (b := b15) (v := .bool r26) rfl hc25 rfl) ?_
        exact GL.jump (fun _ _ h => h) r26 h ⟨rfl, trivial⟩
      · skip
        replace h := And.right h hc25
        refine GL.skip ⟨_, rfl, .inl ⟨_, rfl, hc25⟩⟩ rfl ?_
        refine GL.val trivial rfl (OV.pickF (b := b15) (v := .bool false) rfl hc25 rfl) ?_
        exact GL.jump (fun _ _ h => h) false h ⟨rfl, trivial⟩
    intro b22 H28 h
    replace h := hR24 b22 H28 h
    refine GL.val trivial rfl (OV.assign (v := .bool b22) rfl) ?_
    refine GL.nil ?_
    exact GC.ret (fun _ _ hf hs => post_tmp1 rfl rfl hf hs ⟨b22, rfl, h⟩)

def sh_law28_CsvNames (C : Ctx) (K : Bool → Heap → Prop) (H : Heap) : Prop :=
  nw ((T_S_s_string_n_int.c (⟨[97, 34, 98], 0⟩ : T_S_s_string_n_int)) ++ (T_S_s_string_n_int.c (⟨[97, 34, 98, 34], 0⟩ : T_S_s_string_n_int)) ++ (T_S_s_string_n_int.c (⟨[120, 10, 34, 121], 1⟩ : T_S_s_string_n_int)) ++ (T_S_s_string_n_int.c (⟨[34, 97, 34, 98], 0⟩ : T_S_s_string_n_int)) ++ (T_S_s_string_n_int.c (⟨[97, 13, 98], 0⟩ : T_S_s_string_n_int)) ++ (T_S_s_string_n_int.c (⟨[97, 13], 0⟩ : T_S_s_string_n_int)) ++ (T_S_s_string_n_int.c (⟨[97, 44, 34, 34, 34], 0⟩ : T_S_s_string_n_int)) ++ (T_S_s_string_n_int.c (⟨[97, 10, 98, 10, 34, 34, 32, 44], 2⟩ : T_S_s_string_n_int)) ++ (T_S_s_string_n_int.c (⟨[34, 97, 34, 13], 0⟩ : T_S_s_string_n_int)) ++ []) (fun b1 H2 =>
 lp (α := Int) 0 H2 (fun x3 J4 H5 =>
 ift (decide ((x3 : Int) < (Sl.len (Sl.of (some (b1, 0)) 9 9) : Int)))
 (ixa (Sl.of (some (b1, 0)) 9 9) x3 fun p7 =>
 ldT H5 T_S_s_string_n_int.c (p7.1, p7.2 + (x3 : Int).toNat * 2) fun x12 =>
 nw (T_S_s_string_n_int.c T_S_s_string_n_int.zero) (fun b14 H15 =>
 stT (b14, 0) (T_S_s_string_n_int.c x12) (fun H16 =>
 ldS H16 ((b14, 0).1, (b14, 0).2 + 0) fun x17 =>
 c_csv_Read C x17 (fun r19 r20 r21 H22 =>
 jn (α := Bool) (fun b23 H29 =>
 ift (b23 || (((Sl.len r19 : Int) : Int) != 0))
 (K false H29)
 (J4 (w .i64 (x3 + 1)) H29))
 (fun J24 => ift ((r21 : Int) != 4)
 (J24 true H22)
 (ldI H22 .i64 ((b14, 0).1, (b14, 0).2 + 1) fun x27 =>
 J24 ((r20 : Int) != x27) H22))) H16) H15) H5)
 (c_csv_Read C [] (fun r32 r33 r34 H35 =>
 c_csv_Read C [10] (fun r36 r37 r38 H39 =>
 c_csv_Read C [34, 13, 10, 34, 44] (fun r40 r41 r42 H43 =>
 nw ([sv [97]]) (fun b44 H45 =>
 nw ([slv (Sl.of (some (b44, 0)) 1 1), slv Sl.nil]) (fun b46 H47 =>
 c_csv_Write C (Sl.of (some (b46, 0)) 2 2) (fun r48 r49 H50 =>
 c_csv_Write C Sl.nil (fun r51 r52 H53 =>
 nw ([sv [97, 34, 98, 34, 99]]) (fun b54 H55 =>
 nw ([slv (Sl.of (some (b54, 0)) 1 1)]) (fun b56 H57 =>
 c_csv_Write C (Sl.of (some (b56, 0)) 1 1) (fun r58 r59 H60 =>
 ift ((!(r58 == ([34, 97, 34, 34, 98, 34, 34, 99, 34, 13, 10] : Str))) || ((r59 : Int) != 0))
 (K false H60)
 (jn (α := Bool) (fun b64 H74 =>
 jn (α := Bool) (fun b76 H86 =>
 jn (α := Bool) (fun b91 H97 =>
 K b91 H97)
 (fun J92 => ift ((((b76 && ((r42 : Int) == 0)) && ((r49 : Int) == 1)) && (r51 == ([] : Str))) && ((r52 : Int) == 0))
 (c_law28_awake C (fun r95 H96 =>
 J92 r95 H96) H86)
 (J92 false H86)))
 (fun J77 => ift (b64 && ((r38 : Int) == 0))
 (nw ([sv [13, 10], sv []]) (fun b80 H81 =>
 nw ([slv (Sl.of (some (b80, 0)) 2 2)]) (fun b82 H83 =>
 c_ref28_Same C r40 (Sl.of (some (b82, 0)) 1 1) (fun r84 H85 =>
 J77 r84 H85) H83) H81) H74)
 (J77 false H74)))
 (fun J65 => ift ((((Sl.len r32 : Int) : Int) == 0) && ((r34 : Int) == 0))
 (nw ([sv []]) (fun b68 H69 =>
 nw ([slv (Sl.of (some (b68, 0)) 1 1)]) (fun b70 H71 =>
 c_ref28_Same C r36 (Sl.of (some (b70, 0)) 1 1) (fun r72 H73 =>
 J65 r72 H73) H71) H69) H60)
 (J65 false H60)))) H57) H55) H53) H50) H47) H45) H43) H39) H35) H5))) H

theorem ad_law28_CsvNames (C : Ctx) (K : Bool → Heap → Prop) (H : Heap) (h : sh_law28_CsvNames C  K H) : c_law28_CsvNames C  K H := by
  refine Spec.enter Tryd.func5 rfl Tryd.ntmps5 rfl ?_
  refine GC.sub [] trivial ?_
  refine GC.seq ?_
  refine GC.region ?_
  refine GL.val trivial rfl (OV.assign (v := .bool false) rfl) ?_
  refine GL.nil ?_
  refine GC.seq ?_
  refine GC.seq ?_
  refine GC.region ?_
  refine GL.val trivial rfl (OV.build (vs := [(0, sv [97, 34, 98]), (1, .int .i64 0)]) (v := .agg (T_S_s_string_n_int.c (⟨[97, 34, 98], 0⟩ : T_S_s_string_n_int)).toArray) rfl (fun _ => by kernel_rfl)) ?_
  refine GL.val trivial rfl (OV.build (vs := [(0, sv [97, 34, 98, 34]), (1, .int .i64 0)]) (v := .agg (T_S_s_string_n_int.c (⟨[97, 34, 98, 34], 0⟩ : T_S_s_string_n_int)).toArray) rfl (fun _ => by kernel_rfl)) ?_
  refine GL.val trivial rfl (OV.build (vs := [(0, sv [120, 10, 34, 121]), (1, .int .i64 1)]) (v := .agg (T_S_s_string_n_int.c (⟨[120, 10, 34, 121], 1⟩ : T_S_s_string_n_int)).toArray) rfl (fun _ => by kernel_rfl)) ?_
  refine GL.val trivial rfl (OV.build (vs := [(0, sv [34, 97, 34, 98]), (1, .int .i64 0)]) (v := .agg (T_S_s_string_n_int.c (⟨[34, 97, 34, 98], 0⟩ : T_S_s_string_n_int)).toArray) rfl (fun _ => by kernel_rfl)) ?_
  refine GL.val trivial rfl (OV.build (vs := [(0, sv [97, 13, 98]), (1, .int .i64 0)]) (v := .agg (T_S_s_string_n_int.c (⟨[97, 13, 98], 0⟩ : T_S_s_string_n_int)).toArray) rfl (fun _ => by kernel_rfl)) ?_
  refine GL.val trivial rfl (OV.build (vs := [(0, sv [97, 13]), (1, .int .i64 0)]) (v := .agg (T_S_s_string_n_int.c (⟨[97, 13], 0⟩ : T_S_s_string_n_int)).toArray) rfl (fun _ => by kernel_rfl)) ?_
  refine GL.val trivial rfl (OV.build (vs := [(0, sv [97, 44, 34, 34, 34]), (1, .int .i64 0)]) (v := .agg (T_S_s_string_n_int.c (⟨[97, 44, 34, 34, 34], 0⟩ : T_S_s_string_n_int)).toArray) rfl (fun _ => by kernel_rfl)) ?_
  refine GL.val trivial rfl (OV.build (vs := [(0, sv [97, 10, 98, 10, 34, 34, 32, 44]), (1, .int .i64 2)]) (v := .agg (T_S_s_string_n_int.c (⟨[97, 10, 98, 10, 34, 34, 32, 44], 2⟩ : T_S_s_string_n_int)).toArray) rfl (fun _ => by kernel_rfl)) ?_
  refine GL.val trivial rfl (OV.build (vs := [(0, sv [34, 97, 34, 13]), (1, .int .i64 0)]) (v := .agg (T_S_s_string_n_int.c (⟨[34, 97, 34, 13], 0⟩ : T_S_s_string_n_int)).toArray) rfl (fun _ => by kernel_rfl)) ?_
  refine GL.buildSlice (cs := (T_S_s_string_n_int.c (⟨[97, 34, 98], 0⟩ : T_S_s_string_n_int)) ++ (T_S_s_string_n_int.c (⟨[97, 34, 98, 34], 0⟩ : T_S_s_string_n_int)) ++ (T_S_s_string_n_int.c (⟨[120, 10, 34, 121], 1⟩ : T_S_s_string_n_int)) ++ (T_S_s_string_n_int.c (⟨[34, 97, 34, 98], 0⟩ : T_S_s_string_n_int)) ++ (T_S_s_string_n_int.c (⟨[97, 13, 98], 0⟩ : T_S_s_string_n_int)) ++ (T_S_s_string_n_int.c (⟨[97, 13], 0⟩ : T_S_s_string_n_int)) ++ (T_S_s_string_n_int.c (⟨[97, 44, 34, 34, 34], 0⟩ : T_S_s_string_n_int)) ++ (T_S_s_string_n_int.c (⟨[97, 10, 98, 10, 34, 34, 32, 44], 2⟩ : T_S_s_string_n_int)) ++ (T_S_s_string_n_int.c (⟨[34, 97, 34, 13], 0⟩ : T_S_s_string_n_int)) ++ []) h trivial rfl (vs := [(0, .agg (T_S_s_string_n_int.c (⟨[97, 34, 98], 0⟩ : T_S_s_string_n_int)).toArray), (1, .agg (T_S_s_string_n_int.c (⟨[97, 34, 98, 34], 0⟩ : T_S_s_string_n_int)).toArray), (2, .agg (T_S_s_string_n_int.c (⟨[120, 10, 34, 121], 1⟩ : T_S_s_string_n_int)).toArray), (3, .agg (T_S_s_string_n_int.c (⟨[34, 97, 34, 98], 0⟩ : T_S_s_string_n_int)).toArray), (4, .agg (T_S_s_string_n_int.c (⟨[97, 13, 98], 0⟩ : T_S_s_string_n_int)).toArray), (5, .agg (T_S_s_string_n_int.c (⟨[97, 13], 0⟩ : T_S_s_string_n_int)).toArray), (6, .agg (T_S_s_string_n_int.c (⟨[97, 44, 34, 34, 34], 0⟩ : T_S_s_string_n_int)).toArray), (7, .agg (T_S_s_string_n_int.c (⟨[97, 10, 98, 10, 34, 34, 32, 44], 2⟩ : T_S_s_string_n_int)).toArray), (8, .agg (T_S_s_string_n_int.c (⟨[34, 97, 34, 13], 0⟩ : T_S_s_string_n_int)).toArray)]) rfl ⟨34, fun _ => by kernel_rfl⟩ ?_
  intro b1 H2 h
  refine GL.val trivial rfl (OV.lenSl (s := (Sl.of (some (b1, 0)) 9 9)) rfl rfl) ?_
  refine GL.val trivial rfl (OV.move (v := .int .i64 0) rfl) ?_
  refine GL.nil ?_
  refine GC.block ?_
  refine GC.loop (α := Int) h (fun x3 => [(32, .int .i64 x3), (30, slv (Sl.of (some (b1, 0)) 9 9)), (31, .int .i64 (Sl.len (Sl.of (some (b1, 0)) 9 9) : Int))]) ⟨rfl, rfl, rfl, trivial⟩ ?_
  intro x3 H5 J4 h
  refine GC.seq ?_
  refine GC.region ?_
  refine GL.val trivial rfl (OV.ibin (v := .bool (decide ((x3 : Int) < (Sl.len (Sl.of (some (b1, 0)) 9 9) : Int)))) rfl rfl rfl) ?_
  refine GL.nil ?_
  refine GC.seq ?_
  refine GC.cond (b := decide ((x3 : Int) < (Sl.len (Sl.of (some (b1, 0)) 9 9) : Int))) rfl (fun hc6 => ?_) (fun hc6 => ?_)
  · replace h := And.left h hc6
    refine GC.skip ?_
    refine GC.seq ?_
    refine GC.block ?_
    refine GC.seq ?_
    refine GC.region ?_
    obtain ⟨p7, ha8, hb9, hc10, hd11, h⟩ := h
    refine GL.val trivial rfl (OV.indexAddr (s := (Sl.of (some (b1, 0)) 9 9)) rfl rfl rfl rfl ha8 hb9 hc10 hd11) ?_
    obtain ⟨x12, hr13, h⟩ := h
    refine GL.val trivial rfl (OV.loadT (p := (p7.1, p7.2 + (x3 : Int).toNat * 2)) (cs := T_S_s_string_n_int.c x12) rfl rfl rfl hr13) ?_
    refine GL.alloc (cs := T_S_s_string_n_int.c T_S_s_string_n_int.zero) h trivial rfl rfl rfl ?_
    intro b14 H15 h
    refine GL.storeT (p := (b14, 0)) (vs := T_S_s_string_n_int.c x12) h trivial rfl rfl rfl rfl ?_
    intro H16 h
    refine GL.nil ?_
    refine GC.seq ?_
    refine GC.region ?_
    refine GL.val trivial rfl (OV.fieldAddr (p := (b14, 0)) rfl rfl) ?_
    obtain ⟨x17, hr18, h⟩ := h
    refine GL.val trivial rfl (OV.load (p := ((b14, 0).1, (b14, 0).2 + 0)) rfl rfl hr18) ?_
    refine GL.call h trivial rfl ok_csv_Read (vs := [sv x17]) rfl ?_
    rintro _ H22 ⟨r19, r20, r21, rfl, h⟩
    refine GL.val trivial rfl (OV.move (v := .tuple #[slv r19, .int .i64 r20, .int .i64 r21]) rfl) ?_
    refine GL.val trivial rfl (OV.extract (v := slv r19) rfl rfl) ?_
    refine GL.val trivial rfl (OV.extract (v := .int .i64 r20) rfl rfl) ?_
    refine GL.val trivial rfl (OV.extract (v := .int .i64 r21) rfl rfl) ?_
    refine GL.val trivial rfl (OV.assign (v := slv r19) rfl) ?_
    refine GL.val trivial rfl (OV.assign (v := .int .i64 r20) rfl) ?_
    refine GL.val trivial rfl (OV.assign (v := .int .i64 r21) rfl) ?_
    refine GL.nil ?_
    refine GC.seq ?_
    refine GC.region ?_
    refine GL.val trivial rfl (OV.move (v := .int .i64 r21) rfl) ?_
    refine GL.val trivial rfl (OV.ibin (v := .bool ((r21 : Int) != 4)) rfl rfl rfl) ?_
    refine GL.val trivial rfl (OV.move (v := .bool ((r21 : Int) != 4)) rfl) ?_
    obtain ⟨J24, h, hR25⟩ := h
    refine GL.cut (α := Bool) 5 J24 (fun b23 => [(50, .bool b23), (3, slv r19), (30, slv (Sl.of (some (b1, 0)) 9 9)), (31, .int .i64 (Sl.len (Sl.of (some (b1, 0)) 9 9) : Int)), (32, .int .i64 x3)]) ?_ ?_
    · rcases Bool.eq_false_or_eq_true ((r21 : Int) != 4) with hc26 | hc26
      · skip
        replace h := And.left h hc26
        refine GL.skip ⟨_, rfl, .inl ⟨_, rfl, hc26⟩⟩ rfl ?_
        refine GL.skip ⟨_, rfl, .inl ⟨_, rfl, hc26⟩⟩ rfl ?_
        refine GL.skip ⟨_, rfl, .inl ⟨_, rfl, hc26⟩⟩ rfl ?_
        refine GL.skip ⟨_, rfl, .inl ⟨_, rfl, hc26⟩⟩ rfl ?_
        refine GL.val trivial rfl (OV.pickT (b := (r21 : Int) != 4) (v := .bool true) rfl hc26 rfl) ?_
        exact GL.jump (fun _ _ h => h) true h ⟨rfl, rfl, rfl, rfl, rfl, trivial⟩
      · skip
        replace h := And.right h hc26
        refine GL.val ⟨_, _, rfl, rfl, hc26⟩ rfl (OV.move (v := .int .i64 r20) rfl) ?_
        refine GL.val ⟨_, _, rfl, rfl, hc26⟩ rfl (OV.fieldAddr (p := (b14, 0)) rfl rfl) ?_
        obtain ⟨x27, hr28, h⟩ := h
        refine GL.val ⟨_, _, rfl, rfl, hc26⟩ rfl (OV.load (p := ((b14, 0).1, (b14, 0).2 + 1)) rfl rfl hr28) ?_
        refine GL.val ⟨_, _, rfl, rfl, hc26⟩ rfl (OV.ibin (v := .bool ((r20 : Int) != x27)) rfl rfl rfl) ?_
        refine GL.val trivial rfl (OV.pickF (b := (r21 : Int) != 4) (v := .bool ((r20 : Int) != x27)) rfl hc26 rfl) ?_
        exact GL.jump (fun _ _ h => h) ((r20 : Int) != x27) h ⟨rfl, rfl, rfl, rfl, rfl, trivial⟩
    intro b23 H29 h
    replace h := hR25 b23 H29 h
    refine GL.val trivial rfl (OV.move (v := .bool b23) rfl) ?_
    refine GL.cut0 4 [(55, .bool (b23 || (((Sl.len r19 : Int) : Int) != 0))), (30, slv (Sl.of (some (b1, 0)) 9 9)), (31, .int .i64 (Sl.len (Sl.of (some (b1, 0)) 9 9) : Int)), (32, .int .i64 x3)] ?_ ?_
    · rcases Bool.eq_false_or_eq_true b23 with hc30 | hc30
      · skip
        refine GL.skip ⟨_, rfl, .inl ⟨_, rfl, hc30⟩⟩ rfl ?_
        refine GL.skip ⟨_, rfl, .inl ⟨_, rfl, hc30⟩⟩ rfl ?_
        refine GL.skip ⟨_, rfl, .inl ⟨_, rfl, hc30⟩⟩ rfl ?_
        refine GL.val trivial rfl (OV.pickT (b := b23) (v := .bool true) rfl hc30 rfl) ?_
        exact GL.jump0 (fun _ _ h => h) () rfl ⟨(by rw [hc30]; rfl), rfl, rfl, rfl, trivial⟩
      · skip
        refine GL.val ⟨_, _, rfl, rfl, hc30⟩ rfl (OV.move (v := slv r19) rfl) ?_
        refine GL.val ⟨_, _, rfl, rfl, hc30⟩ rfl (OV.lenSl (s := r19) rfl rfl) ?_
        refine GL.val ⟨_, _, rfl, rfl, hc30⟩ rfl (OV.ibin (v := .bool (((Sl.len r19 : Int) : Int) != 0)) rfl rfl rfl) ?_
        refine GL.val trivial rfl (OV.pickF (b := b23) (v := .bool (((Sl.len r19 : Int) : Int) != 0)) rfl hc30 rfl) ?_
        exact GL.jump0 (fun _ _ h => h) () rfl ⟨(by rw [hc30]; rfl), rfl, rfl, rfl, trivial⟩
    refine GL.nil ?_
    refine GC.cond (b := b23 || (((Sl.len r19 : Int) : Int) != 0)) rfl (fun hc31 => ?_) (fun hc31 => ?_)
    · replace h := And.left h hc31
      refine GC.seq ?_
      refine GC.region ?_
      refine GL.val trivial rfl (OV.assign (v := .bool false) rfl) ?_
      refine GL.nil ?_
      exact GC.ret (fun _ _ hf hs => post_tmp1 rfl rfl hf hs ⟨false, rfl, h⟩)
    · replace h := And.right h hc31
      refine GC.skip_to (fun _ _ h => h) ?_
      refine GC.region ?_
      refine GL.val trivial rfl (OV.ibin (v := .int .i64 (w .i64 (x3 + 1))) rfl rfl rfl) ?_
      refine GL.val trivial rfl (OV.move (v := .int .i64 (w .i64 (x3 + 1))) rfl) ?_
      exact GL.jump (fun _ _ h => h) (w .i64 (x3 + 1)) h ⟨rfl, rfl, rfl, trivial⟩
  · replace h := And.right h hc6
    refine GC.exit_to (fun _ _ h => h) ?_
    refine GC.seq ?_
    refine GC.region ?_
    refine GL.call h trivial rfl ok_csv_Read (vs := [sv []]) rfl ?_
    rintro _ H35 ⟨r32, r33, r34, rfl, h⟩
    refine GL.val trivial rfl (OV.move (v := .tuple #[slv r32, .int .i64 r33, .int .i64 r34]) rfl) ?_
    refine GL.val trivial rfl (OV.extract (v := slv r32) rfl rfl) ?_
    refine GL.val trivial rfl (OV.extract (v := .int .i64 r33) rfl rfl) ?_
    refine GL.val trivial rfl (OV.extract (v := .int .i64 r34) rfl rfl) ?_
    refine GL.val trivial rfl (OV.assign (v := slv r32) rfl) ?_
    refine GL.val trivial rfl (OV.assign (v := .int .i64 r33) rfl) ?_
    refine GL.val trivial rfl (OV.assign (v := .int .i64 r34) rfl) ?_
    refine GL.nil ?_
    refine GC.seq ?_
    refine GC.region ?_
    refine GL.call h trivial rfl ok_csv_Read (vs := [sv [10]]) rfl ?_
    rintro _ H39 ⟨r36, r37, r38, rfl, h⟩
    refine GL.val trivial rfl (OV.move (v := .tuple #[slv r36, .int .i64 r37, .int .i64 r38]) rfl) ?_
    refine GL.val trivial rfl (OV.extract (v := slv r36) rfl rfl) ?_
    refine GL.val trivial rfl (OV.extract (v := .int .i64 r37) rfl rfl) ?_
    refine GL.val trivial rfl (OV.extract (v := .int .i64 r38) rfl rfl) ?_
    refine GL.val trivial rfl (OV.assign (v := slv r36) rfl) ?_
    refine GL.val trivial rfl (OV.assign (v := .int .i64 r37) rfl) ?_
    refine GL.val trivial rfl (OV.assign (v := .int .i64 r38) rfl) ?_
    refine GL.nil ?_
    refine GC.seq ?_
    refine GC.region ?_
    refine GL.call h trivial rfl ok_csv_Read (vs := [sv [34, 13, 10, 34, 44]]) rfl ?_
    rintro _ H43 ⟨r40, r41, r42, rfl, h⟩
    refine GL.val trivial rfl (OV.move (v := .tuple #[slv r40, .int .i64 r41, .int .i64 r42]) rfl) ?_
    refine GL.val trivial rfl (OV.extract (v := slv r40) rfl rfl) ?_
    refine GL.val trivial rfl (OV.extract (v := .int .i64 r41) rfl rfl) ?_
    refine GL.val trivial rfl (OV.extract (v := .int .i64 r42) rfl rfl) ?_
    refine GL.val trivial rfl (OV.assign (v := slv r40) rfl) ?_
    refine GL.val trivial rfl (OV.assign (v := .int .i64 r41) rfl) ?_
    refine GL.val trivial rfl (OV.assign (v := .int .i64 r42) rfl) ?_
    refine GL.nil ?_
    refine GC.seq ?_
    refine GC.region ?_
    refine GL.buildSlice (cs := [sv [97]]) h trivial rfl (vs := [(0, sv [97])]) rfl ⟨9, fun _ => by kernel_rfl⟩ ?_
    intro b44 H45 h
    refine GL.buildSlice (cs := [slv (Sl.of (some (b44, 0)) 1 1), slv Sl.nil]) h trivial rfl (vs := [(0, slv (Sl.of (some (b44, 0)) 1 1)), (1, slv Sl.nil)]) rfl ⟨28, fun _ => by kernel_rfl⟩ ?_
    intro b46 H47 h
    refine GL.call h trivial rfl ok_csv_Write (vs := [slv (Sl.of (some (b46, 0)) 2 2)]) rfl ?_
    rintro _ H50 ⟨r48, r49, rfl, h⟩
    refine GL.val trivial rfl (OV.move (v := .tuple #[sv r48, .int .i64 r49]) rfl) ?_
    refine GL.val trivial rfl (OV.extract (v := sv r48) rfl rfl) ?_
    refine GL.val trivial rfl (OV.extract (v := .int .i64 r49) rfl rfl) ?_
    refine GL.val trivial rfl (OV.assign (v := sv r48) rfl) ?_
    refine GL.val trivial rfl (OV.assign (v := .int .i64 r49) rfl) ?_
    refine GL.nil ?_
    refine GC.seq ?_
    refine GC.region ?_
    refine GL.call h trivial rfl ok_csv_Write (vs := [slv Sl.nil]) rfl ?_
    rintro _ H53 ⟨r51, r52, rfl, h⟩
    refine GL.val trivial rfl (OV.move (v := .tuple #[sv r51, .int .i64 r52]) rfl) ?_
    refine GL.val trivial rfl (OV.extract (v := sv r51) rfl rfl) ?_
    refine GL.val trivial rfl (OV.extract (v := .int .i64 r52) rfl rfl) ?_
    refine GL.val trivial rfl (OV.assign (v := sv r51) rfl) ?_
    refine GL.val trivial rfl (OV.assign (v := .int .i64 r52) rfl) ?_
    refine GL.nil ?_
    refine GC.seq ?_
    refine GC.region ?_
    refine GL.buildSlice (cs := [sv [97, 34, 98, 34, 99]]) h trivial rfl (vs := [(0, sv [97, 34, 98, 34, 99])]) rfl ⟨9, fun _ => by kernel_rfl⟩ ?_
    intro b54 H55 h
    refine GL.buildSlice (cs := [slv (Sl.of (some (b54, 0)) 1 1)]) h trivial rfl (vs := [(0, slv (Sl.of (some (b54, 0)) 1 1))]) rfl ⟨28, fun _ => by kernel_rfl⟩ ?_
    intro b56 H57 h
    refine GL.call h trivial rfl ok_csv_Write (vs := [slv (Sl.of (some (b56, 0)) 1 1)]) rfl ?_
    rintro _ H60 ⟨r58, r59, rfl, h⟩
    refine GL.val trivial rfl (OV.move (v := .tuple #[sv r58, .int .i64 r59]) rfl) ?_
    refine GL.val trivial rfl (OV.extract (v := sv r58) rfl rfl) ?_
    refine GL.val trivial rfl (OV.extract (v := .int .i64 r59) rfl rfl) ?_
    refine GL.val trivial rfl (OV.assign (v := sv r58) rfl) ?_
    refine GL.val trivial rfl (OV.assign (v := .int .i64 r59) rfl) ?_
    refine GL.nil ?_
    refine GC.seq ?_
    refine GC.seq ?_
    refine GC.region ?_
    refine GL.val trivial rfl (OV.move (v := sv r58) rfl) ?_
    refine GL.val trivial rfl (OV.sbin (a := r58) (b := ([34, 97, 34, 34, 98, 34, 34, 99, 34, 13, 10] : Str)) (v := .bool (!(r58 == ([34, 97, 34, 34, 98, 34, 34, 99, 34, 13, 10] : Str)))) rfl rfl rfl) ?_
    refine GL.val trivial rfl (OV.move (v := .bool (!(r58 == ([34, 97, 34, 34, 98, 34, 34, 99, 34, 13, 10] : Str)))) rfl) ?_
    refine GL.cut0 3 [(93, .bool ((!(r58 == ([34, 97, 34, 34, 98, 34, 34, 99, 34, 13, 10] : Str))) || ((r59 : Int) != 0))), (6, slv r32), (8, .int .i64 r34), (9, slv r36), (11, .int .i64 r38), (12, slv r40), (14, .int .i64 r42), (16, .int .i64 r49), (17, sv r51), (18, .int .i64 r52)] ?_ ?_
    · rcases Bool.eq_false_or_eq_true (!(r58 == ([34, 97, 34, 34, 98, 34, 34, 99, 34, 13, 10] : Str))) with hc61 | hc61
      · skip
        refine GL.skip ⟨_, rfl, .inl ⟨_, rfl, hc61⟩⟩ rfl ?_
        refine GL.skip ⟨_, rfl, .inl ⟨_, rfl, hc61⟩⟩ rfl ?_
        refine GL.val trivial rfl (OV.pickT (b := !(r58 == ([34, 97, 34, 34, 98, 34, 34, 99, 34, 13, 10] : Str))) (v := .bool true) rfl hc61 rfl) ?_
        exact GL.jump0 (fun _ _ h => h) () rfl ⟨(by rw [hc61]; rfl), rfl, rfl, rfl, rfl, rfl, rfl, rfl, rfl, rfl, trivial⟩
      · skip
        refine GL.val ⟨_, _, rfl, rfl, hc61⟩ rfl (OV.move (v := .int .i64 r59) rfl) ?_
        refine GL.val ⟨_, _, rfl, rfl, hc61⟩ rfl (OV.ibin (v := .bool ((r59 : Int) != 0)) rfl rfl rfl) ?_
        refine GL.val trivial rfl (OV.pickF (b := !(r58 == ([34, 97, 34, 34, 98, 34, 34, 99, 34, 13, 10] : Str))) (v := .bool ((r59 : Int) != 0)) rfl hc61 rfl) ?_
        exact GL.jump0 (fun _ _ h => h) () rfl ⟨(by rw [hc61]; rfl), rfl, rfl, rfl, rfl, rfl, rfl, rfl, rfl, rfl, trivial⟩
    refine GL.nil ?_
    refine GC.cond (b := (!(r58 == ([34, 97, 34, 34, 98, 34, 34, 99, 34, 13, 10] : Str))) || ((r59 : Int) != 0)) rfl (fun hc62 => ?_) (fun hc62 => ?_)
    · replace h := And.left h hc62
      refine GC.seq ?_
      refine GC.region ?_
      refine GL.val trivial rfl (OV.assign (v := .bool false) rfl) ?_
      refine GL.nil ?_
      exact GC.ret (fun _ _ hf hs => post_tmp1 rfl rfl hf hs ⟨false, rfl, h⟩)
    · replace h := And.right h hc62
      refine GC.skip ?_
      refine GC.seq ?_
      refine GC.region ?_
      refine GL.val trivial rfl (OV.move (v := slv r32) rfl) ?_
      refine GL.val trivial rfl (OV.lenSl (s := r32) rfl rfl) ?_
      refine GL.val trivial rfl (OV.ibin (v := .bool (((Sl.len r32 : Int) : Int) == 0)) rfl rfl rfl) ?_
      refine GL.val trivial rfl (OV.move (v := .bool (((Sl.len r32 : Int) : Int) == 0)) rfl) ?_
      refine GL.cut0 3 [(100, .bool ((((Sl.len r32 : Int) : Int) == 0) && ((r34 : Int) == 0))), (9, slv r36), (11, .int .i64 r38), (12, slv r40), (14, .int .i64 r42), (16, .int .i64 r49), (17, sv r51), (18, .int .i64 r52)] ?_ ?_
      · rcases Bool.eq_false_or_eq_true (((Sl.len r32 : Int) : Int) == 0) with hc63 | hc63
        · skip
          refine GL.val ⟨_, _, rfl, rfl, hc63⟩ rfl (OV.move (v := .int .i64 r34) rfl) ?_
          refine GL.val ⟨_, _, rfl, rfl, hc63⟩ rfl (OV.ibin (v := .bool ((r34 : Int) == 0)) rfl rfl rfl) ?_
          refine GL.val trivial rfl (OV.pickT (b := ((Sl.len r32 : Int) : Int) == 0) (v := .bool ((r34 : Int) == 0)) rfl hc63 rfl) ?_
          exact GL.jump0 (fun _ _ h => h) () rfl ⟨(by rw [hc63]; rfl), rfl, rfl, rfl, rfl, rfl, rfl, rfl, trivial⟩
        · skip
          refine GL.skip ⟨_, rfl, .inl ⟨_, rfl, hc63⟩⟩ rfl ?_
          refine GL.skip ⟨_, rfl, .inl ⟨_, rfl, hc63⟩⟩ rfl ?_
          refine GL.val trivial rfl (OV.pickF (b := ((Sl.len r32 : Int) : Int) == 0) (v := .bool false) rfl hc63 rfl) ?_
          exact GL.jump0 (fun _ _ h => h) () rfl ⟨(by rw [hc63]; rfl), rfl, rfl, rfl, rfl, rfl, rfl, rfl, trivial⟩
      refine GL.val trivial rfl (OV.move (v := .bool ((((Sl.len r32 : Int) : Int) == 0) && ((r34 : Int) == 0))) rfl) ?_
      obtain ⟨J65, h, hR66⟩ := h
      refine GL.cut (α := Bool) 5 J65 (fun b64 => [(106, .bool b64), (11, .int .i64 r38), (12, slv r40), (14, .int .i64 r42), (16, .int .i64 r49), (17, sv r51), (18, .int .i64 r52)]) ?_ ?_
      · rcases Bool.eq_false_or_eq_true ((((Sl.len r32 : Int) : Int) == 0) && ((r34 : Int) == 0)) with hc67 | hc67
        · skip
          replace h := And.left h hc67
          refine GL.val ⟨_, _, rfl, rfl, hc67⟩ rfl (OV.move (v := slv r36) rfl) ?_
          refine GL.buildSlice (cs := [sv []]) h ⟨_, _, rfl, rfl, hc67⟩ rfl (vs := [(0, sv [])]) rfl ⟨9, fun _ => by kernel_rfl⟩ ?_
          intro b68 H69 h
          refine GL.buildSlice (cs := [slv (Sl.of (some (b68, 0)) 1 1)]) h ⟨_, _, rfl, rfl, hc67⟩ rfl (vs := [(0, slv (Sl.of (some (b68, 0)) 1 1))]) rfl ⟨28, fun _ => by kernel_rfl⟩ ?_
          intro b70 H71 h
          refine GL.call h ⟨_, _, rfl, rfl, hc67⟩ rfl ok_ref28_Same (vs := [slv r36, slv (Sl.of (some (b70, 0)) 1 1)]) rfl ?_
          rintro _ H73 ⟨r72, rfl, h⟩
          refine GL.val trivial rfl (OV.pickT (b := (((Sl.len r32 : Int) : Int) == 0) && ((r34 : Int) == 0)) (v := .bool r72) rfl hc67 rfl) ?_
          exact GL.jump (fun _ _ h => h) r72 h ⟨rfl, rfl, rfl, rfl, rfl, rfl, rfl, trivial⟩
        · skip
          replace h := And.right h hc67
          refine GL.skip ⟨_, rfl, .inl ⟨_, rfl, hc67⟩⟩ rfl ?_
          refine GL.skip ⟨_, rfl, .inl ⟨_, rfl, hc67⟩⟩ rfl ?_
          refine GL.skip ⟨_, rfl, .inl ⟨_, rfl, hc67⟩⟩ rfl ?_
          refine GL.skip ⟨_, rfl, .inl ⟨_, rfl, hc67⟩⟩ rfl ?_
          refine GL.val trivial rfl (OV.pickF (b := (((Sl.len r32 : Int) : Int) == 0) && ((r34 : Int) == 0)) (v := .bool false) rfl hc67 rfl) ?_
          exact GL.jump (fun _ _ h => h) false h ⟨rfl, rfl, rfl, rfl, rfl, rfl, rfl, trivial⟩
      intro b64 H74 h
      replace h := hR66 b64 H74 h
      refine GL.val trivial rfl (OV.move (v := .bool b64) rfl) ?_
      refine GL.cut0 3 [(110, .bool (b64 && ((r38 : Int) == 0))), (12, slv r40), (14, .int .i64 r42), (16, .int .i64 r49), (17, sv r51), (18, .int .i64 r52)] ?_ ?_
      · rcases Bool.eq_false_or_eq_true b64 with hc75 | hc75
        · skip
          refine GL.val ⟨_, _, rfl, rfl, hc75⟩ rfl (OV.move (v := .int .i64 r38) rfl) ?_
          refine GL.val ⟨_, _, rfl, rfl, hc75⟩ rfl (OV.ibin (v := .bool ((r38 : Int) == 0)) rfl rfl rfl) ?_
          refine GL.val trivial rfl (OV.pickT (b := b64) (v := .bool ((r38 : Int) == 0)) rfl hc75 rfl) ?_
          exact GL.jump0 (fun _ _ h => h) () rfl ⟨(by rw [hc75]; rfl), rfl, rfl, rfl, rfl, rfl, trivial⟩
        · skip
          refine GL.skip ⟨_, rfl, .inl ⟨_, rfl, hc75⟩⟩ rfl ?_
          refine GL.skip ⟨_, rfl, .inl ⟨_, rfl, hc75⟩⟩ rfl ?_
          refine GL.val trivial rfl (OV.pickF (b := b64) (v := .bool false) rfl hc75 rfl) ?_
          exact GL.jump0 (fun _ _ h => h) () rfl ⟨(by rw [hc75]; rfl), rfl, rfl, rfl, rfl, rfl, trivial⟩
      refine GL.val trivial rfl (OV.move (v := .bool (b64 && ((r38 : Int) == 0))) rfl) ?_
      obtain ⟨J77, h, hR78⟩ := h
      refine GL.cut (α := Bool) 5 J77 (fun b76 => [(116, .bool b76), (14, .int .i64 r42), (16, .int .i64 r49), (17, sv r51), (18, .int .i64 r52)]) ?_ ?_
      · rcases Bool.eq_false_or_eq_true (b64 && ((r38 : Int) == 0)) with hc79 | hc79
        · skip
          replace h := And.left h hc79
          refine GL.val ⟨_, _, rfl, rfl, hc79⟩ rfl (OV.move (v := slv r40) rfl) ?_
          refine GL.buildSlice (cs := [sv [13, 10], sv []]) h ⟨_, _, rfl, rfl, hc79⟩ rfl (vs := [(0, sv [13, 10]), (1, sv [])]) rfl ⟨9, fun _ => by kernel_rfl⟩ ?_
          intro b80 H81 h
          refine GL.buildSlice (cs := [slv (Sl.of (some (b80, 0)) 2 2)]) h ⟨_, _, rfl, rfl, hc79⟩ rfl (vs := [(0, slv (Sl.of (some (b80, 0)) 2 2))]) rfl ⟨28, fun _ => by kernel_rfl⟩ ?_
          intro b82 H83 h
          refine GL.call h ⟨_, _, rfl, rfl, hc79⟩ rfl ok_ref28_Same (vs := [slv r40, slv (Sl.of (some (b82, 0)) 1 1)]) rfl ?_
          rintro _ H85 ⟨r84, rfl, h⟩
          refine GL.val trivial rfl (OV.pickT (b := b64 && ((r38 : Int) == 0)) (v := .bool r84) rfl hc79 rfl) ?_
          exact GL.jump (fun _ _ h => h) r84 h ⟨rfl, rfl, rfl, rfl, rfl, trivial⟩
        · skip
          replace h := And.right h hc79
          refine GL.skip ⟨_, rfl, .inl ⟨_, rfl, hc79⟩⟩ rfl ?_
          refine GL.skip ⟨_, rfl, .inl ⟨_, rfl, hc79⟩⟩ rfl ?_
          refine GL.skip ⟨_, rfl, .inl ⟨_, rfl, hc79⟩⟩ rfl ?_
          refine GL.skip ⟨_, rfl, .inl ⟨_, rfl, hc79⟩⟩ rfl ?_
          refine GL.val trivial rfl (OV.pickF (b := b64 && ((r38 : Int) == 0)) (v := .bool false) rfl hc79 rfl) ?_
          exact GL.jump (fun _ _ h => h) false h ⟨rfl, rfl, rfl, rfl, rfl, trivial⟩
      intro b76 H86 h
      replace h := hR78 b76 H86 h
      refine GL.val trivial rfl (OV.move (v := .bool b76) rfl) ?_
      refine GL.cut0 3 [(120, .bool (b76 && ((r42 : Int) == 0))), (16, .int .i64 r49), (17, sv r51), (18, .int .i64 r52)] ?_ ?_
      · rcases Bool.eq_false_or_eq_true b76 with hc87 | hc87
        · skip
          refine GL.val ⟨_, _, rfl, rfl, hc87⟩ rfl (OV.move (v := .int .i64 r42) rfl) ?_
          refine GL.val ⟨_, _, rfl, rfl, hc87⟩ rfl (OV.ibin (v := .bool ((r42 : Int) == 0)) rfl rfl rfl) ?_
          refine GL.val trivial rfl (OV.pickT (b := b76) (v := .bool ((r42 : Int) == 0)) rfl hc87 rfl) ?_
          exact GL.jump0 (fun _ _ h => h) () rfl ⟨(by rw [hc87]; rfl), rfl, rfl, rfl, trivial⟩
        · skip
          refine GL.skip ⟨_, rfl, .inl ⟨_, rfl, hc87⟩⟩ rfl ?_
          refine GL.skip ⟨_, rfl, .inl ⟨_, rfl, hc87⟩⟩ rfl ?_
          refine GL.val trivial rfl (OV.pickF (b := b76) (v := .bool false) rfl hc87 rfl) ?_
          exact GL.jump0 (fun _ _ h => h) () rfl ⟨(by rw [hc87]; rfl), rfl, rfl, rfl, trivial⟩
      refine GL.val trivial rfl (OV.move (v := .bool (b76 && ((r42 : Int) == 0))) rfl) ?_
      refine GL.cut0 3 [(124, .bool ((b76 && ((r42 : Int) == 0)) && ((r49 : Int) == 1))), (17, sv r51), (18, .int .i64 r52)] ?_ ?_
      · rcases Bool.eq_false_or_eq_true (b76 && ((r42 : Int) == 0)) with hc88 | hc88
        · skip
          refine GL.val ⟨_, _, rfl, rfl, hc88⟩ rfl (OV.move (v := .int .i64 r49) rfl) ?_
          refine GL.val ⟨_, _, rfl, rfl, hc88⟩ rfl (OV.ibin (v := .bool ((r49 : Int) == 1)) rfl rfl rfl) ?_
          refine GL.val trivial rfl (OV.pickT (b := b76 && ((r42 : Int) == 0)) (v := .bool ((r49 : Int) == 1)) rfl hc88 rfl) ?_
          exact GL.jump0 (fun _ _ h => h) () rfl ⟨(by rw [hc88]; rfl), rfl, rfl, trivial⟩
        · skip
          refine GL.skip ⟨_, rfl, .inl ⟨_, rfl, hc88⟩⟩ rfl ?_
          refine GL.skip ⟨_, rfl, .inl ⟨_, rfl, hc88⟩⟩ rfl ?_
          refine GL.val trivial rfl (OV.pickF (b := b76 && ((r42 : Int) == 0)) (v := .bool false) rfl hc88 rfl) ?_
          exact GL.jump0 (fun _ _ h => h) () rfl ⟨(by rw [hc88]; rfl), rfl, rfl, trivial⟩
      refine GL.val trivial rfl (OV.move (v := .bool ((b76 && ((r42 : Int) == 0)) && ((r49 : Int) == 1))) rfl) ?_
      refine GL.cut0 3 [(128, .bool (((b76 && ((r42 : Int) == 0)) && ((r49 : Int) == 1)) && (r51 == ([] : Str)))), (18, .int .i64 r52)] ?_ ?_
      · rcases Bool.eq_false_or_eq_true ((b76 && ((r42 : Int) == 0)) && ((r49 : Int) == 1)) with hc89 | hc89
        · skip
          refine GL.val ⟨_, _, rfl, rfl, hc89⟩ rfl (OV.move (v := sv r51) rfl) ?_
          refine GL.val ⟨_, _, rfl, rfl, hc89⟩ rfl (OV.sbin (a := r51) (b := ([] : Str)) (v := .bool (r51 == ([] : Str))) rfl rfl rfl) ?_
          refine GL.val trivial rfl (OV.pickT (b := (b76 && ((r42 : Int) == 0)) && ((r49 : Int) == 1)) (v := .bool (r51 == ([] : Str))) rfl hc89 rfl) ?_
          exact GL.jump0 (fun _ _ h => h) () rfl ⟨(by rw [hc89]; rfl), rfl, trivial⟩
        · skip
          refine GL.skip ⟨_, rfl, .inl ⟨_, rfl, hc89⟩⟩ rfl ?_
          refine GL.skip ⟨_, rfl, .inl ⟨_, rfl, hc89⟩⟩ rfl ?_
          refine GL.val trivial rfl (OV.pickF (b := (b76 && ((r42 : Int) == 0)) && ((r49 : Int) == 1)) (v := .bool false) rfl hc89 rfl) ?_
          exact GL.jump0 (fun _ _ h => h) () rfl ⟨(by rw [hc89]; rfl), rfl, trivial⟩
      refine GL.val trivial rfl (OV.move (v := .bool (((b76 && ((r42 : Int) == 0)) && ((r49 : Int) == 1)) && (r51 == ([] : Str)))) rfl) ?_
      refine GL.cut0 3 [(132, .bool ((((b76 && ((r42 : Int) == 0)) && ((r49 : Int) == 1)) && (r51 == ([] : Str))) && ((r52 : Int) == 0)))] ?_ ?_
      · rcases Bool.eq_false_or_eq_true (((b76 && ((r42 : Int) == 0)) && ((r49 : Int) == 1)) && (r51 == ([] : Str))) with hc90 | hc90
        · skip
          refine GL.val ⟨_, _, rfl, rfl, hc90⟩ rfl (OV.move (v := .int .i64 r52) rfl) ?_
          refine GL.val ⟨_, _, rfl, rfl, hc90⟩ rfl (OV.ibin (v := .bool ((r52 : Int) == 0)) rfl rfl rfl) ?_
          refine GL.val trivial rfl (OV.pickT (b := ((b76 && ((r42 : Int) == 0)) && ((r49 : Int) == 1)) && (r51 == ([] : Str))) (v := .bool ((r52 : Int) == 0)) rfl hc90 rfl) ?_
          exact GL.jump0 (fun _ _ h => h) () rfl ⟨(by rw [hc90]; rfl), trivial⟩
        · skip
          refine GL.skip ⟨_, rfl, .inl ⟨_, rfl, hc90⟩⟩ rfl ?_
          refine GL.skip ⟨_, rfl, .inl ⟨_, rfl, hc90⟩⟩ rfl ?_
          refine GL.val trivial rfl (OV.pickF (b := ((b76 && ((r42 : Int) == 0)) && ((r49 : Int) == 1)) && (r51 == ([] : Str))) (v := .bool false) rfl hc90 rfl) ?_
          exact GL.jump0 (fun _ _ h => h) () rfl ⟨(by rw [hc90]; rfl), trivial⟩
      refine GL.val trivial rfl (OV.move (v := .bool ((((b76 && ((r42 : Int) == 0)) && ((r49 : Int) == 1)) && (r51 == ([] : Str))) && ((r52 : Int) == 0))) rfl) ?_
      obtain ⟨J92, h, hR93⟩ := h
      refine GL.cut (α := Bool) 2 J92 (fun b91 => [(135, .bool b91)]) ?_ ?_
      · rcases Bool.eq_false_or_eq_true ((((b76 && ((r42 : Int) == 0)) && ((r49 : Int) == 1)) && (r51 == ([] : Str))) && ((r52 : Int) == 0)) with hc94 | hc94
        · skip
          replace h := And.left h hc94
          refine GL.call h ⟨_, _, rfl, rfl, hc94⟩ rfl ok_law28_awake (vs := []) rfl ?_
          rintro _ H96 ⟨r95, rfl, h⟩
          refine GL.val trivial rfl (OV.pickT (b := (((b76 && ((r42 : Int) == 0)) && ((r49 : Int) == 1)) && (r51 == ([] : Str))) && ((r52 : Int) == 0)) (v := .bool r95) rfl hc94 rfl) ?_
          exact GL.jump (fun _ _ h => h) r95 h ⟨rfl, trivial⟩
        · skip
          replace h := And.right h hc94
          refine GL.skip ⟨_, rfl, .inl ⟨_, rfl, hc94⟩⟩ rfl ?_
          refine GL.val trivial rfl (OV.pickF (b := (((b76 && ((r42 : Int) == 0)) && ((r49 : Int) == 1)) && (r51 == ([] : Str))) && ((r52 : Int) == 0)) (v := .bool false) rfl hc94 rfl) ?_
          exact GL.jump (fun _ _ h => h) false h ⟨rfl, trivial⟩
      intro b91 H97 h
      replace h := hR93 b91 H97 h
      refine GL.val trivial rfl (OV.assign (v := .bool b91) rfl) ?_
      refine GL.nil ?_
      exact GC.ret (fun _ _ hf hs => post_tmp1 rfl rfl hf hs ⟨b91, rfl, h⟩)

def sh_law28_CsvBack (C : Ctx) (p_l : Sl) (p_s : Str) (K : Bool → Heap → Prop) (H : Heap) : Prop :=
  c_law28_large C p_l (fun r1 H2 =>
 jn (α := Bool) (fun b4 H10 =>
 ift b4
 (c_law28_awake C (fun r12 H13 =>
 K r12 H13) H10)
 (c_csv_Write C p_l (fun r14 r15 H16 =>
 jn (α := Unit) (fun x18 H19 =>
 c_csv_Read C p_s (fun r34 r35 r36 H37 =>
 ift ((r36 : Int) != 0)
 (K true H37)
 (c_csv_Write C r34 (fun r39 r40 H41 =>
 c_csv_Read C r39 (fun r42 r43 r44 H45 =>
 jn (α := Bool) (fun b47 H53 =>
 K b47 H53)
 (fun J48 => ift (((r40 : Int) == 0) && ((r44 : Int) == 0))
 (c_ref28_Same C r34 r42 (fun r51 H52 =>
 J48 r51 H52) H45)
 (J48 false H45))) H41) H37)) H19)
 (fun J17 => ift ((r15 : Int) == 0)
 (c_csv_Read C r14 (fun r22 r23 r24 H25 =>
 jn (α := Bool) (fun b26 H32 =>
 ift b26
 (K false H32)
 (J17 () H32))
 (fun J27 => ift ((r24 : Int) != 0)
 (J27 true H25)
 (c_ref28_Same C p_l r22 (fun r30 H31 =>
 J27 (!r30) H31) H25))) H16)
 (J17 () H16))) H10))
 (fun J5 => ift (r1 || (decide (((List.length p_s : Int) : Int) > 5000)))
 (J5 true H2)
 (c_law28_awake C (fun r8 H9 =>
 J5 (!r8) H9) H2))) H

theorem ad_law28_CsvBack (C : Ctx) (p_l : Sl) (p_s : Str) (K : Bool → Heap → Prop) (H : Heap) (h : sh_law28_CsvBack C p_l p_s K H) : c_law28_CsvBack C p_l p_s K H := by
  refine Spec.enter Tryd.func6 rfl Tryd.ntmps6 rfl ?_
  refine GC.sub [(0, slv p_l), (1, sv p_s)] ⟨rfl, rfl, trivial⟩ ?_
  refine GC.seq ?_
  refine GC.region ?_
  refine GL.val trivial rfl (OV.assign (v := .bool false) rfl) ?_
  refine GL.nil ?_
  refine GC.seq ?_
  refine GC.seq ?_
  refine GC.region ?_
  refine GL.val trivial rfl (OV.move (v := slv p_l) rfl) ?_
  refine GL.call h trivial rfl ok_law28_large (vs := [slv p_l]) rfl ?_
  rintro _ H2 ⟨r1, rfl, h⟩
  refine GL.val trivial rfl (OV.move (v := .bool r1) rfl) ?_
  refine GL.cut0 4 [(21, .bool (r1 || (decide (((List.length p_s : Int) : Int) > 5000)))), (0, slv p_l), (1, sv p_s)] ?_ ?_
  · rcases Bool.eq_false_or_eq_true r1 with hc3 | hc3
    · skip
      refine GL.skip ⟨_, rfl, .inl ⟨_, rfl, hc3⟩⟩ rfl ?_
      refine GL.skip ⟨_, rfl, .inl ⟨_, rfl, hc3⟩⟩ rfl ?_
      refine GL.skip ⟨_, rfl, .inl ⟨_, rfl, hc3⟩⟩ rfl ?_
      refine GL.val trivial rfl (OV.pickT (b := r1) (v := .bool true) rfl hc3 rfl) ?_
      exact GL.jump0 (fun _ _ h => h) () rfl ⟨(by rw [hc3]; rfl), rfl, rfl, trivial⟩
    · skip
      refine GL.val ⟨_, _, rfl, rfl, hc3⟩ rfl (OV.move (v := sv p_s) rfl) ?_
      refine GL.val ⟨_, _, rfl, rfl, hc3⟩ rfl (OV.lenStr (s := p_s) rfl rfl) ?_
      refine GL.val ⟨_, _, rfl, rfl, hc3⟩ rfl (OV.ibin (v := .bool (decide (((List.length p_s : Int) : Int) > 5000))) rfl rfl rfl) ?_
      refine GL.val trivial rfl (OV.pickF (b := r1) (v := .bool (decide (((List.length p_s : Int) : Int) > 5000))) rfl hc3 rfl) ?_
      exact GL.jump0 (fun _ _ h => h) () rfl ⟨(by rw [hc3]; rfl), rfl, rfl, trivial⟩
  refine GL.val trivial rfl (OV.move (v := .bool (r1 || (decide (((List.length p_s : Int) : Int) > 5000)))) rfl) ?_
  obtain ⟨J5, h, hR6⟩ := h
  refine GL.cut (α := Bool) 3 J5 (fun b4 => [(25, .bool b4), (0, slv p_l), (1, sv p_s)]) ?_ ?_
  · rcases Bool.eq_false_or_eq_true (r1 || (decide (((List.length p_s : Int) : Int) > 5000))) with hc7 | hc7
    · skip
      replace h := And.left h hc7
      refine GL.skip ⟨_, rfl, .inl ⟨_, rfl, hc7⟩⟩ rfl ?_
      refine GL.skip ⟨_, rfl, .inl ⟨_, rfl, hc7⟩⟩ rfl ?_
      refine GL.val trivial rfl (OV.pickT (b := r1 || (decide (((List.length p_s : Int) : Int) > 5000))) (v := .bool true) rfl hc7 rfl) ?_
      exact GL.jump (fun _ _ h => h) true h ⟨rfl, rfl, rfl, trivial⟩
    · skip
      replace h := And.right h hc7
      refine GL.call h ⟨_, _, rfl, rfl, hc7⟩ rfl ok_law28_awake (vs := []) rfl ?_
      rintro _ H9 ⟨r8, rfl, h⟩
      refine GL.val ⟨_, _, rfl, rfl, hc7⟩ rfl (OV.not rfl) ?_
      refine GL.val trivial rfl (OV.pickF (b := r1 || (decide (((List.length p_s : Int) : Int) > 5000))) (v := .bool (!r8)) rfl hc7 rfl) ?_
      exact GL.jump (fun _ _ h => h) (!r8) h ⟨rfl, rfl, rfl, trivial⟩
  intro b4 H10 h
  replace h := hR6 b4 H10 h
  refine GL.nil ?_
  refine GC.cond (b := b4) rfl (fun hc11 => ?_) (fun hc11 => ?_)
  · replace h := And.left h hc11
    refine GC.seq ?_
    refine GC.region ?_
    refine GL.call h trivial rfl ok_law28_awake (vs := []) rfl ?_
    rintro _ H13 ⟨r12, rfl, h⟩
    refine GL.val trivial rfl (OV.assign (v := .bool r12) rfl) ?_
    refine GL.nil ?_
    exact GC.ret (fun _ _ hf hs => post_tmp1 rfl rfl hf hs ⟨r12, rfl, h⟩)
  · replace h := And.right h hc11
    refine GC.skip ?_
    refine GC.seq ?_
    refine GC.region ?_
    refine GL.val trivial rfl (OV.move (v := slv p_l) rfl) ?_
    refine GL.call h trivial rfl ok_csv_Write (vs := [slv p_l]) rfl ?_
    rintro _ H16 ⟨r14, r15, rfl, h⟩
    refine GL.val trivial rfl (OV.move (v := .tuple #[sv r14, .int .i64 r15]) rfl) ?_
    refine GL.val trivial rfl (OV.extract (v := sv r14) rfl rfl) ?_
    refine GL.val trivial rfl (OV.extract (v := .int .i64 r15) rfl rfl) ?_
    refine GL.val trivial rfl (OV.assign (v := sv r14) rfl) ?_
    refine GL.val trivial rfl (OV.assign (v := .int .i64 r15) rfl) ?_
    refine GL.nil ?_
    obtain ⟨J17, h, hR20⟩ := h
    refine GC.join (α := Unit) J17 (fun _ => [(1, sv p_s)]) ?_ ?_
    · skip
      refine GC.seq ?_
      refine GC.region ?_
      refine GL.val trivial rfl (OV.move (v := .int .i64 r15) rfl) ?_
      refine GL.val trivial rfl (OV.ibin (v := .bool ((r15 : Int) == 0)) rfl rfl rfl) ?_
      refine GL.nil ?_
      refine GC.cond (b := (r15 : Int) == 0) rfl (fun hc21 => ?_) (fun hc21 => ?_)
      · replace h := And.left h hc21
        refine GC.seq ?_
        refine GC.region ?_
        refine GL.val trivial rfl (OV.move (v := sv r14) rfl) ?_
        refine GL.call h trivial rfl ok_csv_Read (vs := [sv r14]) rfl ?_
        rintro _ H25 ⟨r22, r23, r24, rfl, h⟩
        refine GL.val trivial rfl (OV.move (v := .tuple #[slv r22, .int .i64 r23, .int .i64 r24]) rfl) ?_
        refine GL.val trivial rfl (OV.extract (v := slv r22) rfl rfl) ?_
        refine GL.val trivial rfl (OV.extract (v := .int .i64 r23) rfl rfl) ?_
        refine GL.val trivial rfl (OV.extract (v := .int .i64 r24) rfl rfl) ?_
        refine GL.val trivial rfl (OV.assign (v := slv r22) rfl) ?_
        refine GL.val trivial rfl (OV.assign (v := .int .i64 r23) rfl) ?_
        refine GL.val trivial rfl (OV.assign (v := .int .i64 r24) rfl) ?_
        refine GL.nil ?_
        refine GC.seq ?_
        refine GC.region ?_
        refine GL.val trivial rfl (OV.move (v := .int .i64 r24) rfl) ?_
        refine GL.val trivial rfl (OV.ibin (v := .bool ((r24 : Int) != 0)) rfl rfl rfl) ?_
        refine GL.val trivial rfl (OV.move (v := .bool ((r24 : Int) != 0)) rfl) ?_
        obtain ⟨J27, h, hR28⟩ := h
        refine GL.cut (α := Bool) 5 J27 (fun b26 => [(47, .bool b26), (1, sv p_s)]) ?_ ?_
        · rcases Bool.eq_false_or_eq_true ((r24 : Int) != 0) with hc29 | hc29
          · skip
            replace h := And.left h hc29
            refine GL.skip ⟨_, rfl, .inl ⟨_, rfl, hc29⟩⟩ rfl ?_
            refine GL.skip ⟨_, rfl, .inl ⟨_, rfl, hc29⟩⟩ rfl ?_
            refine GL.skip ⟨_, rfl, .inl ⟨_, rfl, hc29⟩⟩ rfl ?_
            refine GL.skip ⟨_, rfl, .inl ⟨_, rfl, hc29⟩⟩ rfl ?_
            refine GL.val trivial rfl (OV.pickT (b := (r24 : Int) != 0) (v := .bool true) rfl hc29 rfl) ?_
            exact GL.jump (fun _ _ h => h) true h ⟨rfl, rfl, trivial⟩
          · skip
            replace h := And.right h hc29
            refine GL.val ⟨_, _, rfl, rfl, hc29⟩ rfl (OV.move (v := slv p_l) rfl) ?_
            refine GL.val ⟨_, _, rfl, rfl, hc29⟩ rfl (OV.move (v := slv r22) rfl) ?_
            refine GL.call h ⟨_, _, rfl, rfl, hc29⟩ rfl ok_ref28_Same (vs := [slv p_l, slv r22]) rfl ?_
            rintro _ H31 ⟨r30, rfl, h⟩
            refine GL.val ⟨_, _, rfl, rfl, hc29⟩ rfl (OV.not rfl) ?_
            refine GL.val trivial rfl (OV.pickF (b := (r24 : Int) != 0) (v := .bool (!r30)) rfl hc29 rfl) ?_
            exact GL.jump (fun _ _ h => h) (!r30) h ⟨rfl, rfl, trivial⟩
        intro b26 H32 h
        replace h := hR28 b26 H32 h
        refine GL.nil ?_
        refine GC.cond (b := b26) rfl (fun hc33 => ?_) (fun hc33 => ?_)
        · replace h := And.left h hc33
          refine GC.seq ?_
          refine GC.region ?_
          refine GL.val trivial rfl (OV.assign (v := .bool false) rfl) ?_
          refine GL.nil ?_
          exact GC.ret (fun _ _ hf hs => post_tmp1 rfl rfl hf hs ⟨false, rfl, h⟩)
        · replace h := And.right h hc33
          exact GC.jump (fun _ _ h => h) () h ⟨rfl, trivial⟩
      · replace h := And.right h hc21
        exact GC.jump (fun _ _ h => h) () h ⟨rfl, trivial⟩
    · intro x18 H19 h
      replace h := hR20 x18 H19 h
      refine GC.seq ?_
      refine GC.region ?_
      refine GL.val trivial rfl (OV.move (v := sv p_s) rfl) ?_
      refine GL.call h trivial rfl ok_csv_Read (vs := [sv p_s]) rfl ?_
      rintro _ H37 ⟨r34, r35, r36, rfl, h⟩
      refine GL.val trivial rfl (OV.move (v := .tuple #[slv r34, .int .i64 r35, .int .i64 r36]) rfl) ?_
      refine GL.val trivial rfl (OV.extract (v := slv r34) rfl rfl) ?_
      refine GL.val trivial rfl (OV.extract (v := .int .i64 r35) rfl rfl) ?_
      refine GL.val trivial rfl (OV.extract (v := .int .i64 r36) rfl rfl) ?_
      refine GL.val trivial rfl (OV.assign (v := slv r34) rfl) ?_
      refine GL.val trivial rfl (OV.assign (v := .int .i64 r35) rfl) ?_
      refine GL.val trivial rfl (OV.assign (v := .int .i64 r36) rfl) ?_
      refine GL.nil ?_
      refine GC.seq ?_
      refine GC.seq ?_
      refine GC.region ?_
      refine GL.val trivial rfl (OV.move (v := .int .i64 r36) rfl) ?_
      refine GL.val trivial rfl (OV.ibin (v := .bool ((r36 : Int) != 0)) rfl rfl rfl) ?_
      refine GL.nil ?_
      refine GC.cond (b := (r36 : Int) != 0) rfl (fun hc38 => ?_) (fun hc38 => ?_)
      · replace h := And.left h hc38
        refine GC.seq ?_
        refine GC.region ?_
        refine GL.val trivial rfl (OV.assign (v := .bool true) rfl) ?_
        refine GL.nil ?_
        exact GC.ret (fun _ _ hf hs => post_tmp1 rfl rfl hf hs ⟨true, rfl, h⟩)
      · replace h := And.right h hc38
        refine GC.skip ?_
        refine GC.seq ?_
        refine GC.region ?_
        refine GL.val trivial rfl (OV.move (v := slv r34) rfl) ?_
        refine GL.call h trivial rfl ok_csv_Write (vs := [slv r34]) rfl ?_
        rintro _ H41 ⟨r39, r40, rfl, h⟩
        refine GL.val trivial rfl (OV.move (v := .tuple #[sv r39, .int .i64 r40]) rfl) ?_
        refine GL.val trivial rfl (OV.extract (v := sv r39) rfl rfl) ?_
        refine GL.val trivial rfl (OV.extract (v := .int .i64 r40) rfl rfl) ?_
        refine GL.val trivial rfl (OV.assign (v := sv r39) rfl) ?_
        refine GL.val trivial rfl (OV.assign (v := .int .i64 r40) rfl) ?_
        refine GL.nil ?_
        refine GC.seq ?_
        refine GC.region ?_
        refine GL.val trivial rfl (OV.move (v := sv r39) rfl) ?_
        refine GL.call h trivial rfl ok_csv_Read (vs := [sv r39]) rfl ?_
        rintro _ H45 ⟨r42, r43, r44, rfl, h⟩
        refine GL.val trivial rfl (OV.move (v := .tuple #[slv r42, .int .i64 r43, .int .i64 r44]) rfl) ?_
        refine GL.val trivial rfl (OV.extract (v := slv r42) rfl rfl) ?_
        refine GL.val trivial rfl (OV.extract (v := .int .i64 r43) rfl rfl) ?_
        refine GL.val trivial rfl (OV.extract (v := .int .i64 r44) rfl rfl) ?_
        refine GL.val trivial rfl (OV.assign (v := slv r42) rfl) ?_
        refine GL.val trivial rfl (OV.assign (v := .int .i64 r43) rfl) ?_
        refine GL.val trivial rfl (OV.assign (v := .int .i64 r44) rfl) ?_
        refine GL.nil ?_
        refine GC.seq ?_
        refine GC.region ?_
        refine GL.val trivial rfl (OV.move (v := .int .i64 r40) rfl) ?_
        refine GL.val trivial rfl (OV.ibin (v := .bool ((r40 : Int) == 0)) rfl rfl rfl) ?_
        refine GL.val trivial rfl (OV.move (v := .bool ((r40 : Int) == 0)) rfl) ?_
        refine GL.cut0 3 [(72, .bool (((r40 : Int) == 0) && ((r44 : Int) == 0))), (10, slv r34), (12, slv r42)] ?_ ?_
        · rcases Bool.eq_false_or_eq_true ((r40 : Int) == 0) with hc46 | hc46
          · skip
            refine GL.val ⟨_, _, rfl, rfl, hc46⟩ rfl (OV.move (v := .int .i64 r44) rfl) ?_
            refine GL.val ⟨_, _, rfl, rfl, hc46⟩ rfl (OV.ibin (v := .bool ((r44 : Int) == 0)) rfl rfl rfl) ?_
            refine GL.val trivial rfl (OV.pickT (b := (r40 : Int) == 0) (v := .bool ((r44 : Int) == 0)) rfl hc46 rfl) ?_
            exact GL.jump0 (fun _ _ h => h) () rfl ⟨(by rw [hc46]; rfl), rfl, rfl, trivial⟩
          · skip
            refine GL.skip ⟨_, rfl, .inl ⟨_, rfl, hc46⟩⟩ rfl ?_
            refine GL.skip ⟨_, rfl, .inl ⟨_, rfl, hc46⟩⟩ rfl ?_
            refine GL.val trivial rfl (OV.pickF (b := (r40 : Int) == 0) (v := .bool false) rfl hc46 rfl) ?_
            exact GL.jump0 (fun _ _ h => h) () rfl ⟨(by rw [hc46]; rfl), rfl, rfl, trivial⟩
        refine GL.val trivial rfl (OV.move (v := .bool (((r40 : Int) == 0) && ((r44 : Int) == 0))) rfl) ?_
        obtain ⟨J48, h, hR49⟩ := h
        refine GL.cut (α := Bool) 4 J48 (fun b47 => [(77, .bool b47)]) ?_ ?_
        · rcases Bool.eq_false_or_eq_true (((r40 : Int) == 0) && ((r44 : Int) == 0)) with hc50 | hc50
          · skip
            replace h := And.left h hc50
            refine GL.val ⟨_, _, rfl, rfl, hc50⟩ rfl (OV.move (v := slv r34) rfl) ?_
            refine GL.val ⟨_, _, rfl, rfl, hc50⟩ rfl (OV.move (v := slv r42) rfl) ?_
            refine GL.call h ⟨_, _, rfl, rfl, hc50⟩ rfl ok_ref28_Same (vs := [slv r34, slv r42]) rfl ?_
            rintro _ H52 ⟨r51, rfl, h⟩
            refine GL.val trivial rfl (OV.pickT (b := ((r40 : Int) == 0) && ((r44 : Int) == 0)) (v := .bool r51) rfl hc50 rfl) ?_
            exact GL.jump (fun _ _ h => h) r51 h ⟨rfl, trivial⟩
          · skip
            replace h := And.right h hc50
            refine GL.skip ⟨_, rfl, .inl ⟨_, rfl, hc50⟩⟩ rfl ?_
            refine GL.skip ⟨_, rfl, .inl ⟨_, rfl, hc50⟩⟩ rfl ?_
            refine GL.skip ⟨_, rfl, .inl ⟨_, rfl, hc50⟩⟩ rfl ?_
            refine GL.val trivial rfl (OV.pickF (b := ((r40 : Int) == 0) && ((r44 : Int) == 0)) (v := .bool false) rfl hc50 rfl) ?_
            exact GL.jump (fun _ _ h => h) false h ⟨rfl, trivial⟩
        intro b47 H53 h
        replace h := hR49 b47 H53 h
        refine GL.val trivial rfl (OV.assign (v := .bool b47) rfl) ?_
        refine GL.nil ?_
        exact GC.ret (fun _ _ hf hs => post_tmp1 rfl rfl hf hs ⟨b47, rfl, h⟩)

def sh_law28_CsvEnds (C : Ctx) (p_l : Sl) (p_picks : Sl) (p_last : Bool) (K : Bool → Heap → Prop) (H : Heap) : Prop :=
  c_law28_large C p_l (fun r1 H2 =>
 jn (α := Bool) (fun b3 H9 =>
 ift b3
 (c_law28_awake C (fun r11 H12 =>
 K r11 H12) H9)
 (lp (α := Str × Int) ([], 0) H9 (fun x13 J14 H15 =>
 ift (decide ((x13.2 : Int) < (Sl.len p_l : Int)))
 (jn (α := Str) (fun x18 H19 =>
 J14 (x18, (w .i64 (x13.2 + 1))) H19)
 (fun J17 => lp (α := Int) 0 H15 (fun x21 J22 H23 =>
 ixa p_l x13.2 fun p24 =>
 ldL H23 (p24.1, p24.2 + (x13.2 : Int).toNat * 1) fun x29 =>
 ift (decide ((x21 : Int) < (Sl.len x29 : Int)))
 (lp (α := Int) 0 H23 (fun x32 J33 H34 =>
 ixa p_l x13.2 fun p35 =>
 ldL H34 (p35.1, p35.2 + (x13.2 : Int).toNat * 1) fun x40 =>
 ixa x40 x21 fun p42 =>
 ldS H34 (p42.1, p42.2 + (x21 : Int).toNat * 1) fun x47 =>
 ift (decide ((x32 : Int) < (List.length x47 : Int)))
 (ixa p_l x13.2 fun p50 =>
 ldL H34 (p50.1, p50.2 + (x13.2 : Int).toNat * 1) fun x55 =>
 ixa x55 x21 fun p57 =>
 ldS H34 (p57.1, p57.2 + (x21 : Int).toNat * 1) fun x62 =>
 ixs x62 x32 fun c64 =>
 jn (α := Bool) (fun b67 H88 =>
 ift b67
 (K true H88)
 (J33 (w .i64 (x32 + 1)) H88))
 (fun J68 => ift (((c64.toNat : Int) : Int) == 10)
 (J68 true H34)
 (ixa p_l x13.2 fun p71 =>
 ldL H34 (p71.1, p71.2 + (x13.2 : Int).toNat * 1) fun x76 =>
 ixa x76 x21 fun p78 =>
 ldS H34 (p78.1, p78.2 + (x21 : Int).toNat * 1) fun x83 =>
 ixs x83 x32 fun c85 =>
 J68 (((c85.toNat : Int) : Int) == 13) H34)))
 (J22 (w .i64 (x21 + 1)) H34)))
 (slL p_l x13.2 (w .i64 (x13.2 + 1)) (Sl.cap p_l : Int) 1 fun t90 =>
 c_csv_Write C t90 (fun r96 r97 H98 =>
 ift (((r97 : Int) != 0) || (decide (((List.length r96 : Int) : Int) < 2)))
 (K ((r97 : Int) == 1) H98)
 (slS r96 0 (w .i64 ((List.length r96 : Int) - 2)) fun t101 =>
 catOk x13.1 t101 ∧
 ift (((x13.2 : Int) == (w .i64 ((Sl.len p_l : Int) - 1))) && p_last)
 (J17 (x13.1 ++ t101) H98)
 (jn (α := Str) (fun x111 H112 =>
 catOk x111 ([10] : Str) ∧
 J17 (x111 ++ ([10] : Str)) H112)
 (fun J110 => jn (α := Bool) (fun b114 H125 =>
 ift b114
 (catOk (x13.1 ++ t101) ([13] : Str) ∧
 J110 ((x13.1 ++ t101) ++ ([13] : Str)) H125)
 (J110 (x13.1 ++ t101) H125))
 (fun J115 => ift (decide ((x13.2 : Int) < (Sl.len p_picks : Int)))
 (ixa p_picks x13.2 fun p118 =>
 ldB H98 (p118.1, p118.2 + (x13.2 : Int).toNat * 1) fun x123 =>
 J115 x123 H98)
 (J115 false H98)))))) H23))))
 (c_csv_Read C x13.1 (fun r129 r130 r131 H132 =>
 jn (α := Bool) (fun b133 H139 =>
 K b133 H139)
 (fun J134 => ift ((r131 : Int) == 0)
 (c_ref28_Same C r129 p_l (fun r137 H138 =>
 J134 r137 H138) H132)
 (J134 false H132))) H15))))
 (fun J4 => ift r1
 (J4 true H2)
 (c_law28_awake C (fun r7 H8 =>
 J4 (!r7) H8) H2))) H

theorem ad_law28_CsvEnds (C : Ctx) (p_l : Sl) (p_picks : Sl) (p_last : Bool) (K : Bool → Heap → Prop) (H : Heap) (h : sh_law28_CsvEnds C p_l p_picks p_last K H) : c_law28_CsvEnds C p_l p_picks p_last K H := by
  refine Spec.enter Tryd.func7 rfl Tryd.ntmps7 rfl ?_
  refine GC.sub [(0, slv p_l), (1, slv p_picks), (2, .bool p_last)] ⟨rfl, rfl, rfl, trivial⟩ ?_
  refine GC.seq ?_
  refine GC.region ?_
  refine GL.val trivial rfl (OV.assign (v := .bool false) rfl) ?_
  refine GL.nil ?_
  refine GC.seq ?_
  refine GC.seq ?_
  refine GC.region ?_
  refine GL.val trivial rfl (OV.move (v := slv p_l) rfl) ?_
  refine GL.call h trivial rfl ok_law28_large (vs := [slv p_l]) rfl ?_
  rintro _ H2 ⟨r1, rfl, h⟩
  refine GL.val trivial rfl (OV.move (v := .bool r1) rfl) ?_
  obtain ⟨J4, h, hR5⟩ := h
  refine GL.cut (α := Bool) 3 J4 (fun b3 => [(21, .bool b3), (0, slv p_l), (1, slv p_picks), (2, .bool p_last)]) ?_ ?_
  · rcases Bool.eq_false_or_eq_true r1 with hc6 | hc6
    · skip
      replace h := And.left h hc6
      refine GL.skip ⟨_, rfl, .inl ⟨_, rfl, hc6⟩⟩ rfl ?_
      refine GL.skip ⟨_, rfl, .inl ⟨_, rfl, hc6⟩⟩ rfl ?_
      refine GL.val trivial rfl (OV.pickT (b := r1) (v := .bool true) rfl hc6 rfl) ?_
      exact GL.jump (fun _ _ h => h) true h ⟨rfl, rfl, rfl, rfl, trivial⟩
    · skip
      replace h := And.right h hc6
      refine GL.call h ⟨_, _, rfl, rfl, hc6⟩ rfl ok_law28_awake (vs := []) rfl ?_
      rintro _ H8 ⟨r7, rfl, h⟩
      refine GL.val ⟨_, _, rfl, rfl, hc6⟩ rfl (OV.not rfl) ?_
      refine GL.val trivial rfl (OV.pickF (b := r1) (v := .bool (!r7)) rfl hc6 rfl) ?_
      exact GL.jump (fun _ _ h => h) (!r7) h ⟨rfl, rfl, rfl, rfl, trivial⟩
  intro b3 H9 h
  replace h := hR5 b3 H9 h
  refine GL.nil ?_
  refine GC.cond (b := b3) rfl (fun hc10 => ?_) (fun hc10 => ?_)
  · replace h := And.left h hc10
    refine GC.seq ?_
    refine GC.region ?_
    refine GL.call h trivial rfl ok_law28_awake (vs := []) rfl ?_
    rintro _ H12 ⟨r11, rfl, h⟩
    refine GL.val trivial rfl (OV.assign (v := .bool r11) rfl) ?_
    refine GL.nil ?_
    exact GC.ret (fun _ _ hf hs => post_tmp1 rfl rfl hf hs ⟨r11, rfl, h⟩)
  · replace h := And.right h hc10
    refine GC.skip ?_
    refine GC.seq ?_
    refine GC.region ?_
    refine GL.val trivial rfl (OV.assign (v := sv []) rfl) ?_
    refine GL.nil ?_
    refine GC.seq ?_
    refine GC.seq ?_
    refine GC.region ?_
    refine GL.val trivial rfl (OV.assign (v := .int .i64 0) rfl) ?_
    refine GL.nil ?_
    refine GC.block ?_
    refine GC.loop (α := Str × Int) h (fun x13 => [(7, sv x13.1), (8, .int .i64 x13.2), (0, slv p_l), (1, slv p_picks), (2, .bool p_last)]) ⟨rfl, rfl, rfl, rfl, rfl, trivial⟩ ?_
    intro x13 H15 J14 h
    refine GC.seq ?_
    refine GC.seq ?_
    refine GC.region ?_
    refine GL.val trivial rfl (OV.move (v := .int .i64 x13.2) rfl) ?_
    refine GL.val trivial rfl (OV.move (v := slv p_l) rfl) ?_
    refine GL.val trivial rfl (OV.lenSl (s := p_l) rfl rfl) ?_
    refine GL.val trivial rfl (OV.ibin (v := .bool (decide ((x13.2 : Int) < (Sl.len p_l : Int)))) rfl rfl rfl) ?_
    refine GL.nil ?_
    refine GC.cond (b := decide ((x13.2 : Int) < (Sl.len p_l : Int))) rfl (fun hc16 => ?_) (fun hc16 => ?_)
    · replace h := And.left h hc16
      refine GC.skip ?_
      obtain ⟨J17, h, hR20⟩ := h
      refine GC.join (α := Str) J17 (fun x18 => [(7, sv x18), (0, slv p_l), (1, slv p_picks), (2, .bool p_last), (8, .int .i64 x13.2)]) ?_ ?_
      · skip
        refine GC.block ?_
        refine GC.seq ?_
        refine GC.seq ?_
        refine GC.region ?_
        refine GL.val trivial rfl (OV.assign (v := .int .i64 0) rfl) ?_
        refine GL.nil ?_
        refine GC.block ?_
        refine GC.loop (α := Int) h (fun x21 => [(9, .int .i64 x21), (0, slv p_l), (1, slv p_picks), (2, .bool p_last), (7, sv x13.1), (8, .int .i64 x13.2)]) ⟨rfl, rfl, rfl, rfl, rfl, rfl, trivial⟩ ?_
        intro x21 H23 J22 h
        refine GC.seq ?_
        refine GC.seq ?_
        refine GC.region ?_
        refine GL.val trivial rfl (OV.move (v := .int .i64 x21) rfl) ?_
        refine GL.val trivial rfl (OV.move (v := slv p_l) rfl) ?_
        refine GL.val trivial rfl (OV.move (v := .int .i64 x13.2) rfl) ?_
        obtain ⟨p24, ha25, hb26, hc27, hd28, h⟩ := h
        refine GL.val trivial rfl (OV.indexAddr (s := p_l) rfl rfl rfl rfl ha25 hb26 hc27 hd28) ?_
        obtain ⟨x29, hr30, h⟩ := h
        refine GL.val trivial rfl (OV.load (p := (p24.1, p24.2 + (x13.2 : Int).toNat * 1)) rfl rfl hr30) ?_
        refine GL.val trivial rfl (OV.lenSl (s := x29) rfl rfl) ?_
        refine GL.val trivial rfl (OV.ibin (v := .bool (decide ((x21 : Int) < (Sl.len x29 : Int)))) rfl rfl rfl) ?_
        refine GL.nil ?_
        refine GC.cond (b := decide ((x21 : Int) < (Sl.len x29 : Int))) rfl (fun hc31 => ?_) (fun hc31 => ?_)
        · replace h := And.left h hc31
          refine GC.skip ?_
          refine GC.seq ?_
          refine GC.block ?_
          refine GC.seq ?_
          refine GC.region ?_
          refine GL.val trivial rfl (OV.assign (v := .int .i64 0) rfl) ?_
          refine GL.nil ?_
          refine GC.block ?_
          refine GC.loop (α := Int) h (fun x32 => [(10, .int .i64 x32), (0, slv p_l), (1, slv p_picks), (2, .bool p_last), (7, sv x13.1), (8, .int .i64 x13.2), (9, .int .i64 x21)]) ⟨rfl, rfl, rfl, rfl, rfl, rfl, rfl, trivial⟩ ?_
          intro x32 H34 J33 h
          refine GC.seq ?_
          refine GC.seq ?_
          refine GC.region ?_
          refine GL.val trivial rfl (OV.move (v := .int .i64 x32) rfl) ?_
          refine GL.val trivial rfl (OV.move (v := slv p_l) rfl) ?_
          refine GL.val trivial rfl (OV.move (v := .int .i64 x13.2) rfl) ?_
          obtain ⟨p35, ha36, hb37, hc38, hd39, h⟩ := h
          refine GL.val trivial rfl (OV.indexAddr (s := p_l) rfl rfl rfl rfl ha36 hb37 hc38 hd39) ?_
          obtain ⟨x40, hr41, h⟩ := h
          refine GL.val trivial rfl (OV.load (p := (p35.1, p35.2 + (x13.2 : Int).toNat * 1)) rfl rfl hr41) ?_
          refine GL.val trivial rfl (OV.move (v := .int .i64 x21) rfl) ?_
          obtain ⟨p42, ha43, hb44, hc45, hd46, h⟩ := h
          refine GL.val trivial rfl (OV.indexAddr (s := x40) rfl rfl rfl rfl ha43 hb44 hc45 hd46) ?_
          obtain ⟨x47, hr48, h⟩ := h
          refine GL.val trivial rfl (OV.load (p := (p42.1, p42.2 + (x21 : Int).toNat * 1)) rfl rfl hr48) ?_
          refine GL.val trivial rfl (OV.lenStr (s := x47) rfl rfl) ?_
          refine GL.val trivial rfl (OV.ibin (v := .bool (decide ((x32 : Int) < (List.length x47 : Int)))) rfl rfl rfl) ?_
          refine GL.nil ?_
          refine GC.cond (b := decide ((x32 : Int) < (List.length x47 : Int))) rfl (fun hc49 => ?_) (fun hc49 => ?_)
          · replace h := And.left h hc49
            refine GC.skip ?_
            refine GC.seq ?_
            refine GC.block ?_
            refine GC.seq ?_
            refine GC.region ?_
            refine GL.val trivial rfl (OV.move (v := slv p_l) rfl) ?_
            refine GL.val trivial rfl (OV.move (v := .int .i64 x13.2) rfl) ?_
            obtain ⟨p50, ha51, hb52, hc53, hd54, h⟩ := h
            refine GL.val trivial rfl (OV.indexAddr (s := p_l) rfl rfl rfl rfl ha51 hb52 hc53 hd54) ?_
            obtain ⟨x55, hr56, h⟩ := h
            refine GL.val trivial rfl (OV.load (p := (p50.1, p50.2 + (x13.2 : Int).toNat * 1)) rfl rfl hr56) ?_
            refine GL.val trivial rfl (OV.move (v := .int .i64 x21) rfl) ?_
            obtain ⟨p57, ha58, hb59, hc60, hd61, h⟩ := h
            refine GL.val trivial rfl (OV.indexAddr (s := x55) rfl rfl rfl rfl ha58 hb59 hc60 hd61) ?_
            obtain ⟨x62, hr63, h⟩ := h
            refine GL.val trivial rfl (OV.load (p := (p57.1, p57.2 + (x21 : Int).toNat * 1)) rfl rfl hr63) ?_
            refine GL.val trivial rfl (OV.move (v := .int .i64 x32) rfl) ?_
            obtain ⟨c64, ha65, hb66, h⟩ := h
            refine GL.val trivial rfl (OV.indexStr (s := x62) rfl rfl rfl ha65 hb66) ?_
            refine GL.val trivial rfl (OV.ibin (v := .bool (((c64.toNat : Int) : Int) == 10)) rfl rfl rfl) ?_
            refine GL.val trivial rfl (OV.move (v := .bool (((c64.toNat : Int) : Int) == 10)) rfl) ?_
            obtain ⟨J68, h, hR69⟩ := h
            refine GL.cut (α := Bool) 11 J68 (fun b67 => [(71, .bool b67), (0, slv p_l), (1, slv p_picks), (2, .bool p_last), (7, sv x13.1), (8, .int .i64 x13.2), (9, .int .i64 x21), (10, .int .i64 x32)]) ?_ ?_
            · rcases Bool.eq_false_or_eq_true (((c64.toNat : Int) : Int) == 10) with hc70 | hc70
              · skip
                replace h := And.left h hc70
                refine GL.skip ⟨_, rfl, .inl ⟨_, rfl, hc70⟩⟩ rfl ?_
                refine GL.skip ⟨_, rfl, .inl ⟨_, rfl, hc70⟩⟩ rfl ?_
                refine GL.skip ⟨_, rfl, .inl ⟨_, rfl, hc70⟩⟩ rfl ?_
                refine GL.skip ⟨_, rfl, .inl ⟨_, rfl, hc70⟩⟩ rfl ?_
                refine GL.skip ⟨_, rfl, .inl ⟨_, rfl, hc70⟩⟩ rfl ?_
                refine GL.skip ⟨_, rfl, .inl ⟨_, rfl, hc70⟩⟩ rfl ?_
                refine GL.skip ⟨_, rfl, .inl ⟨_, rfl, hc70⟩⟩ rfl ?_
                refine GL.skip ⟨_, rfl, .inl ⟨_, rfl, hc70⟩⟩ rfl ?_
                refine GL.skip ⟨_, rfl, .inl ⟨_, rfl, hc70⟩⟩ rfl ?_
                refine GL.skip ⟨_, rfl, .inl ⟨_, rfl, hc70⟩⟩ rfl ?_
                refine GL.val trivial rfl (OV.pickT (b := ((c64.toNat : Int) : Int) == 10) (v := .bool true) rfl hc70 rfl) ?_
                exact GL.jump (fun _ _ h => h) true h ⟨rfl, rfl, rfl, rfl, rfl, rfl, rfl, rfl, trivial⟩
              · skip
                replace h := And.right h hc70
                refine GL.val ⟨_, _, rfl, rfl, hc70⟩ rfl (OV.move (v := slv p_l) rfl) ?_
                refine GL.val ⟨_, _, rfl, rfl, hc70⟩ rfl (OV.move (v := .int .i64 x13.2) rfl) ?_
                obtain ⟨p71, ha72, hb73, hc74, hd75, h⟩ := h
                refine GL.val ⟨_, _, rfl, rfl, hc70⟩ rfl (OV.indexAddr (s := p_l) rfl rfl rfl rfl ha72 hb73 hc74 hd75) ?_
                obtain ⟨x76, hr77, h⟩ := h
                refine GL.val ⟨_, _, rfl, rfl, hc70⟩ rfl (OV.load (p := (p71.1, p71.2 + (x13.2 : Int).toNat * 1)) rfl rfl hr77) ?_
                refine GL.val ⟨_, _, rfl, rfl, hc70⟩ rfl (OV.move (v := .int .i64 x21) rfl) ?_
                obtain ⟨p78, ha79, hb80, hc81, hd82, h⟩ := h
                refine GL.val ⟨_, _, rfl, rfl, hc70⟩ rfl (OV.indexAddr (s := x76) rfl rfl rfl rfl ha79 hb80 hc81 hd82) ?_
                obtain ⟨x83, hr84, h⟩ := h
                refine GL.val ⟨_, _, rfl, rfl, hc70⟩ rfl (OV.load (p := (p78.1, p78.2 + (x21 : Int).toNat * 1)) rfl rfl hr84) ?_
                refine GL.val ⟨_, _, rfl, rfl, hc70⟩ rfl (OV.move (v := .int .i64 x32) rfl) ?_
                obtain ⟨c85, ha86, hb87, h⟩ := h
                refine GL.val ⟨_, _, rfl, rfl, hc70⟩ rfl (OV.indexStr (s := x83) rfl rfl rfl ha86 hb87) ?_
                refine GL.val ⟨_, _, rfl, rfl, hc70⟩ rfl (OV.ibin (v := .bool (((c85.toNat : Int) : Int) == 13)) rfl rfl rfl) ?_
                refine GL.val trivial rfl (OV.pickF (b := ((c64.toNat : Int) : Int) == 10) (v := .bool (((c85.toNat : Int) : Int) == 13)) rfl hc70 rfl) ?_
                exact GL.jump (fun _ _ h => h) (((c85.toNat : Int) : Int) == 13) h ⟨rfl, rfl, rfl, rfl, rfl, rfl, rfl, rfl, trivial⟩
            intro b67 H88 h
            replace h := hR69 b67 H88 h
            refine GL.nil ?_
            refine GC.cond (b := b67) rfl (fun hc89 => ?_) (fun hc89 => ?_)
            · replace h := And.left h hc89
              refine GC.seq ?_
              refine GC.region ?_
              refine GL.val trivial rfl (OV.assign (v := .bool true) rfl) ?_
              refine GL.nil ?_
              exact GC.ret (fun _ _ hf hs => post_tmp1 rfl rfl hf hs ⟨true, rfl, h⟩)
            · replace h := And.right h hc89
              refine GC.skip_to (fun _ _ h => h) ?_
              refine GC.region ?_
              refine GL.val trivial rfl (OV.move (v := .int .i64 x32) rfl) ?_
              refine GL.val trivial rfl (OV.ibin (v := .int .i64 (w .i64 (x32 + 1))) rfl rfl rfl) ?_
              refine GL.val trivial rfl (OV.assign (v := .int .i64 (w .i64 (x32 + 1))) rfl) ?_
              exact GL.jump (fun _ _ h => h) (w .i64 (x32 + 1)) h ⟨rfl, rfl, rfl, rfl, rfl, rfl, rfl, trivial⟩
          · replace h := And.right h hc49
            refine GC.exit_to (fun _ _ h => h) ?_
            refine GC.region ?_
            refine GL.val trivial rfl (OV.move (v := .int .i64 x21) rfl) ?_
            refine GL.val trivial rfl (OV.ibin (v := .int .i64 (w .i64 (x21 + 1))) rfl rfl rfl) ?_
            refine GL.val trivial rfl (OV.assign (v := .int .i64 (w .i64 (x21 + 1))) rfl) ?_
            exact GL.jump (fun _ _ h => h) (w .i64 (x21 + 1)) h ⟨rfl, rfl, rfl, rfl, rfl, rfl, trivial⟩
        · replace h := And.right h hc31
          refine GC.exit_to (fun _ _ h => h) ?_
          refine GC.seq ?_
          refine GC.region ?_
          refine GL.val trivial rfl (OV.move (v := slv p_l) rfl) ?_
          refine GL.val trivial rfl (OV.move (v := .int .i64 x13.2) rfl) ?_
          refine GL.val trivial rfl (OV.move (v := .int .i64 x13.2) rfl) ?_
          refine GL.val trivial rfl (OV.ibin (v := .int .i64 (w .i64 (x13.2 + 1))) rfl rfl rfl) ?_
          obtain ⟨h91, h92, h93, h94, t90, h95, h⟩ := h
          refine GL.val trivial rfl (OV.sliceSl (s := p_l) h91 h92 h93 h94 h95 rfl rfl rfl rfl rfl rfl rfl (fun h => by first | rfl | cases h) rfl rfl) ?_
          refine GL.call h trivial rfl ok_csv_Write (vs := [slv t90]) rfl ?_
          rintro _ H98 ⟨r96, r97, rfl, h⟩
          refine GL.val trivial rfl (OV.move (v := .tuple #[sv r96, .int .i64 r97]) rfl) ?_
          refine GL.val trivial rfl (OV.extract (v := sv r96) rfl rfl) ?_
          refine GL.val trivial rfl (OV.extract (v := .int .i64 r97) rfl rfl) ?_
          refine GL.val trivial rfl (OV.assign (v := sv r96) rfl) ?_
          refine GL.val trivial rfl (OV.assign (v := .int .i64 r97) rfl) ?_
          refine GL.nil ?_
          refine GC.seq ?_
          refine GC.seq ?_
          refine GC.region ?_
          refine GL.val trivial rfl (OV.move (v := .int .i64 r97) rfl) ?_
          refine GL.val trivial rfl (OV.ibin (v := .bool ((r97 : Int) != 0)) rfl rfl rfl) ?_
          refine GL.val trivial rfl (OV.move (v := .bool ((r97 : Int) != 0)) rfl) ?_
          refine GL.cut0 4 [(87, .bool (((r97 : Int) != 0) || (decide (((List.length r96 : Int) : Int) < 2)))), (0, slv p_l), (1, slv p_picks), (2, .bool p_last), (7, sv x13.1), (8, .int .i64 x13.2), (11, sv r96), (12, .int .i64 r97)] ?_ ?_
          · rcases Bool.eq_false_or_eq_true ((r97 : Int) != 0) with hc99 | hc99
            · skip
              refine GL.skip ⟨_, rfl, .inl ⟨_, rfl, hc99⟩⟩ rfl ?_
              refine GL.skip ⟨_, rfl, .inl ⟨_, rfl, hc99⟩⟩ rfl ?_
              refine GL.skip ⟨_, rfl, .inl ⟨_, rfl, hc99⟩⟩ rfl ?_
              refine GL.val trivial rfl (OV.pickT (b := (r97 : Int) != 0) (v := .bool true) rfl hc99 rfl) ?_
              exact GL.jump0 (fun _ _ h => h) () rfl ⟨(by rw [hc99]; rfl), rfl, rfl, rfl, rfl, rfl, rfl, rfl, trivial⟩
            · skip
              refine GL.val ⟨_, _, rfl, rfl, hc99⟩ rfl (OV.move (v := sv r96) rfl) ?_
              refine GL.val ⟨_, _, rfl, rfl, hc99⟩ rfl (OV.lenStr (s := r96) rfl rfl) ?_
              refine GL.val ⟨_, _, rfl, rfl, hc99⟩ rfl (OV.ibin (v := .bool (decide (((List.length r96 : Int) : Int) < 2))) rfl rfl rfl) ?_
              refine GL.val trivial rfl (OV.pickF (b := (r97 : Int) != 0) (v := .bool (decide (((List.length r96 : Int) : Int) < 2))) rfl hc99 rfl) ?_
              exact GL.jump0 (fun _ _ h => h) () rfl ⟨(by rw [hc99]; rfl), rfl, rfl, rfl, rfl, rfl, rfl, rfl, trivial⟩
          refine GL.nil ?_
          refine GC.cond (b := ((r97 : Int) != 0) || (decide (((List.length r96 : Int) : Int) < 2))) rfl (fun hc100 => ?_) (fun hc100 => ?_)
          · replace h := And.left h hc100
            refine GC.seq ?_
            refine GC.region ?_
            refine GL.val trivial rfl (OV.move (v := .int .i64 r97) rfl) ?_
            refine GL.val trivial rfl (OV.ibin (v := .bool ((r97 : Int) == 1)) rfl rfl rfl) ?_
            refine GL.val trivial rfl (OV.assign (v := .bool ((r97 : Int) == 1)) rfl) ?_
            refine GL.nil ?_
            exact GC.ret (fun _ _ hf hs => post_tmp1 rfl rfl hf hs ⟨((r97 : Int) == 1), rfl, h⟩)
          · replace h := And.right h hc100
            refine GC.skip ?_
            refine GC.seq ?_
            refine GC.region ?_
            refine GL.val trivial rfl (OV.move (v := sv x13.1) rfl) ?_
            refine GL.val trivial rfl (OV.move (v := sv r96) rfl) ?_
            refine GL.val trivial rfl (OV.move (v := sv r96) rfl) ?_
            refine GL.val trivial rfl (OV.lenStr (s := r96) rfl rfl) ?_
            refine GL.val trivial rfl (OV.ibin (v := .int .i64 (w .i64 ((List.length r96 : Int) - 2))) rfl rfl rfl) ?_
            obtain ⟨h102, h103, h104, t101, h105, h⟩ := h
            refine GL.val trivial rfl (OV.sliceStr (s := r96) h102 h103 h104 h105 rfl rfl rfl rfl rfl rfl) ?_
            obtain ⟨hl107, h⟩ := h
            refine GL.val trivial rfl (OV.cat (a := x13.1) (b := t101) rfl rfl hl107) ?_
            refine GL.val trivial rfl (OV.assign (v := sv (x13.1 ++ t101)) rfl) ?_
            refine GL.nil ?_
            refine GC.seq ?_
            refine GC.seq ?_
            refine GC.region ?_
            refine GL.val trivial rfl (OV.move (v := .int .i64 x13.2) rfl) ?_
            refine GL.val trivial rfl (OV.move (v := slv p_l) rfl) ?_
            refine GL.val trivial rfl (OV.lenSl (s := p_l) rfl rfl) ?_
            refine GL.val trivial rfl (OV.ibin (v := .int .i64 (w .i64 ((Sl.len p_l : Int) - 1))) rfl rfl rfl) ?_
            refine GL.val trivial rfl (OV.ibin (v := .bool ((x13.2 : Int) == (w .i64 ((Sl.len p_l : Int) - 1)))) rfl rfl rfl) ?_
            refine GL.val trivial rfl (OV.move (v := .bool ((x13.2 : Int) == (w .i64 ((Sl.len p_l : Int) - 1)))) rfl) ?_
            refine GL.cut0 2 [(104, .bool (((x13.2 : Int) == (w .i64 ((Sl.len p_l : Int) - 1))) && p_last)), (0, slv p_l), (1, slv p_picks), (2, .bool p_last), (7, sv (x13.1 ++ t101)), (8, .int .i64 x13.2)] ?_ ?_
            · rcases Bool.eq_false_or_eq_true ((x13.2 : Int) == (w .i64 ((Sl.len p_l : Int) - 1))) with hc108 | hc108
              · skip
                refine GL.val ⟨_, _, rfl, rfl, hc108⟩ rfl (OV.move (v := .bool p_last) rfl) ?_
                refine GL.val trivial rfl (OV.pickT (b := (x13.2 : Int) == (w .i64 ((Sl.len p_l : Int) - 1))) (v := .bool p_last) rfl hc108 rfl) ?_
                exact GL.jump0 (fun _ _ h => h) () rfl ⟨(by rw [hc108]; rfl), rfl, rfl, rfl, rfl, rfl, trivial⟩
              · skip
                refine GL.skip ⟨_, rfl, .inl ⟨_, rfl, hc108⟩⟩ rfl ?_
                refine GL.val trivial rfl (OV.pickF (b := (x13.2 : Int) == (w .i64 ((Sl.len p_l : Int) - 1))) (v := .bool false) rfl hc108 rfl) ?_
                exact GL.jump0 (fun _ _ h => h) () rfl ⟨(by rw [hc108]; rfl), rfl, rfl, rfl, rfl, rfl, trivial⟩
            refine GL.nil ?_
            refine GC.cond (b := ((x13.2 : Int) == (w .i64 ((Sl.len p_l : Int) - 1))) && p_last) rfl (fun hc109 => ?_) (fun hc109 => ?_)
            · replace h := And.left h hc109
              exact GC.exit_jump (fun _ _ h => h) (x13.1 ++ t101) h ⟨rfl, rfl, rfl, rfl, rfl, trivial⟩
            · replace h := And.right h hc109
              refine GC.skip ?_
              obtain ⟨J110, h, hR113⟩ := h
              refine GC.join (α := Str) J110 (fun x111 => [(7, sv x111), (0, slv p_l), (1, slv p_picks), (2, .bool p_last), (8, .int .i64 x13.2)]) ?_ ?_
              · skip
                refine GC.seq ?_
                refine GC.region ?_
                refine GL.val trivial rfl (OV.move (v := .int .i64 x13.2) rfl) ?_
                refine GL.val trivial rfl (OV.move (v := slv p_picks) rfl) ?_
                refine GL.val trivial rfl (OV.lenSl (s := p_picks) rfl rfl) ?_
                refine GL.val trivial rfl (OV.ibin (v := .bool (decide ((x13.2 : Int) < (Sl.len p_picks : Int)))) rfl rfl rfl) ?_
                refine GL.val trivial rfl (OV.move (v := .bool (decide ((x13.2 : Int) < (Sl.len p_picks : Int)))) rfl) ?_
                obtain ⟨J115, h, hR116⟩ := h
                refine GL.cut (α := Bool) 5 J115 (fun b114 => [(114, .bool b114), (0, slv p_l), (1, slv p_picks), (2, .bool p_last), (7, sv (x13.1 ++ t101)), (8, .int .i64 x13.2)]) ?_ ?_
                · rcases Bool.eq_false_or_eq_true (decide ((x13.2 : Int) < (Sl.len p_picks : Int))) with hc117 | hc117
                  · skip
                    replace h := And.left h hc117
                    refine GL.val ⟨_, _, rfl, rfl, hc117⟩ rfl (OV.move (v := slv p_picks) rfl) ?_
                    refine GL.val ⟨_, _, rfl, rfl, hc117⟩ rfl (OV.move (v := .int .i64 x13.2) rfl) ?_
                    obtain ⟨p118, ha119, hb120, hc121, hd122, h⟩ := h
                    refine GL.val ⟨_, _, rfl, rfl, hc117⟩ rfl (OV.indexAddr (s := p_picks) rfl rfl rfl rfl ha119 hb120 hc121 hd122) ?_
                    obtain ⟨x123, hr124, h⟩ := h
                    refine GL.val ⟨_, _, rfl, rfl, hc117⟩ rfl (OV.load (p := (p118.1, p118.2 + (x13.2 : Int).toNat * 1)) rfl rfl hr124) ?_
                    refine GL.val trivial rfl (OV.pickT (b := decide ((x13.2 : Int) < (Sl.len p_picks : Int))) (v := .bool x123) rfl hc117 rfl) ?_
                    exact GL.jump (fun _ _ h => h) x123 h ⟨rfl, rfl, rfl, rfl, rfl, rfl, trivial⟩
                  · skip
                    replace h := And.right h hc117
                    refine GL.skip ⟨_, rfl, .inl ⟨_, rfl, hc117⟩⟩ rfl ?_
                    refine GL.skip ⟨_, rfl, .inl ⟨_, rfl, hc117⟩⟩ rfl ?_
                    refine GL.skip ⟨_, rfl, .inl ⟨_, rfl, hc117⟩⟩ rfl ?_
                    refine GL.skip ⟨_, rfl, .inl ⟨_, rfl, hc117⟩⟩ rfl ?_
                    refine GL.val trivial rfl (OV.pickF (b := decide ((x13.2 : Int) < (Sl.len p_picks : Int))) (v := .bool false) rfl hc117 rfl) ?_
                    exact GL.jump (fun _ _ h => h) false h ⟨rfl, rfl, rfl, rfl, rfl, rfl, trivial⟩
                intro b114 H125 h
                replace h := hR116 b114 H125 h
                refine GL.nil ?_
                refine GC.cond (b := b114) rfl (fun hc126 => ?_) (fun hc126 => ?_)
                · replace h := And.left h hc126
                  refine GC.region ?_
                  refine GL.val trivial rfl (OV.move (v := sv (x13.1 ++ t101)) rfl) ?_
                  obtain ⟨hl127, h⟩ := h
                  refine GL.val trivial rfl (OV.cat (a := (x13.1 ++ t101)) (b := ([13] : Str)) rfl rfl hl127) ?_
                  refine GL.val trivial rfl (OV.assign (v := sv ((x13.1 ++ t101) ++ ([13] : Str))) rfl) ?_
                  exact GL.jump (fun _ _ h => h) ((x13.1 ++ t101) ++ ([13] : Str)) h ⟨rfl, rfl, rfl, rfl, rfl, trivial⟩
                · replace h := And.right h hc126
                  exact GC.jump (fun _ _ h => h) (x13.1 ++ t101) h ⟨rfl, rfl, rfl, rfl, rfl, trivial⟩
              · intro x111 H112 h
                replace h := hR113 x111 H112 h
                refine GC.region ?_
                refine GL.val trivial rfl (OV.move (v := sv x111) rfl) ?_
                obtain ⟨hl128, h⟩ := h
                refine GL.val trivial rfl (OV.cat (a := x111) (b := ([10] : Str)) rfl rfl hl128) ?_
                refine GL.val trivial rfl (OV.assign (v := sv (x111 ++ ([10] : Str))) rfl) ?_
                exact GL.jump (fun _ _ h => h) (x111 ++ ([10] : Str)) h ⟨rfl, rfl, rfl, rfl, rfl, trivial⟩
      · intro x18 H19 h
        replace h := hR20 x18 H19 h
        refine GC.region ?_
        refine GL.val trivial rfl (OV.move (v := .int .i64 x13.2) rfl) ?_
        refine GL.val trivial rfl (OV.ibin (v := .int .i64 (w .i64 (x13.2 + 1))) rfl rfl rfl) ?_
        refine GL.val trivial rfl (OV.assign (v := .int .i64 (w .i64 (x13.2 + 1))) rfl) ?_
        exact GL.jump (fun _ _ h => h) (x18, (w .i64 (x13.2 + 1))) h ⟨rfl, rfl, rfl, rfl, rfl, trivial⟩
    · replace h := And.right h hc16
      refine GC.exit_to (fun _ _ h => h) ?_
      refine GC.seq ?_
      refine GC.region ?_
      refine GL.val trivial rfl (OV.move (v := sv x13.1) rfl) ?_
      refine GL.call h trivial rfl ok_csv_Read (vs := [sv x13.1]) rfl ?_
      rintro _ H132 ⟨r129, r130, r131, rfl, h⟩
      refine GL.val trivial rfl (OV.move (v := .tuple #[slv r129, .int .i64 r130, .int .i64 r131]) rfl) ?_
      refine GL.val trivial rfl (OV.extract (v := slv r129) rfl rfl) ?_
      refine GL.val trivial rfl (OV.extract (v := .int .i64 r130) rfl rfl) ?_
      refine GL.val trivial rfl (OV.extract (v := .int .i64 r131) rfl rfl) ?_
      refine GL.val trivial rfl (OV.assign (v := slv r129) rfl) ?_
      refine GL.val trivial rfl (OV.assign (v := .int .i64 r130) rfl) ?_
      refine GL.val trivial rfl (OV.assign (v := .int .i64 r131) rfl) ?_
      refine GL.nil ?_
      refine GC.seq ?_
      refine GC.region ?_
      refine GL.val trivial rfl (OV.move (v := .int .i64 r131) rfl) ?_
      refine GL.val trivial rfl (OV.ibin (v := .bool ((r131 : Int) == 0)) rfl rfl rfl) ?_
      refine GL.val trivial rfl (OV.move (v := .bool ((r131 : Int) == 0)) rfl) ?_
      obtain ⟨J134, h, hR135⟩ := h
      refine GL.cut (α := Bool) 4 J134 (fun b133 => [(131, .bool b133)]) ?_ ?_
      · rcases Bool.eq_false_or_eq_true ((r131 : Int) == 0) with hc136 | hc136
        · skip
          replace h := And.left h hc136
          refine GL.val ⟨_, _, rfl, rfl, hc136⟩ rfl (OV.move (v := slv r129) rfl) ?_
          refine GL.val ⟨_, _, rfl, rfl, hc136⟩ rfl (OV.move (v := slv p_l) rfl) ?_
          refine GL.call h ⟨_, _, rfl, rfl, hc136⟩ rfl ok_ref28_Same (vs := [slv r129, slv p_l]) rfl ?_
          rintro _ H138 ⟨r137, rfl, h⟩
          refine GL.val trivial rfl (OV.pickT (b := (r131 : Int) == 0) (v := .bool r137) rfl hc136 rfl) ?_
          exact GL.jump (fun _ _ h => h) r137 h ⟨rfl, trivial⟩
        · skip
          replace h := And.right h hc136
          refine GL.skip ⟨_, rfl, .inl ⟨_, rfl, hc136⟩⟩ rfl ?_
          refine GL.skip ⟨_, rfl, .inl ⟨_, rfl, hc136⟩⟩ rfl ?_
          refine GL.skip ⟨_, rfl, .inl ⟨_, rfl, hc136⟩⟩ rfl ?_
          refine GL.val trivial rfl (OV.pickF (b := (r131 : Int) == 0) (v := .bool false) rfl hc136 rfl) ?_
          exact GL.jump (fun _ _ h => h) false h ⟨rfl, trivial⟩
      intro b133 H139 h
      replace h := hR135 b133 H139 h
      refine GL.val trivial rfl (OV.assign (v := .bool b133) rfl) ?_
      refine GL.nil ?_
      exact GC.ret (fun _ _ hf hs => post_tmp1 rfl rfl hf hs ⟨b133, rfl, h⟩)

def sh_law28_CsvRow (C : Ctx) (p_l : Sl) (p_s : Str) (K : Bool → Heap → Prop) (H : Heap) : Prop :=
  c_law28_large C p_l (fun r1 H2 =>
 jn (α := Bool) (fun b4 H10 =>
 ift b4
 (c_law28_awake C (fun r12 H13 =>
 K r12 H13) H10)
 (c_csv_Write C p_l (fun r14 r15 H16 =>
 ift ((r15 : Int) != 0)
 (K ((r15 : Int) == 1) H16)
 (c_csv_Read C p_s (fun r18 r19 r20 H21 =>
 catOk r14 p_s ∧
 c_csv_Read C (r14 ++ p_s) (fun r23 r24 r25 H26 =>
 ift ((r20 : Int) != r25)
 (K false H26)
 (ift ((r20 : Int) != 0)
 (K ((r24 : Int) == (w .i64 (r19 + (Sl.len p_l : Int)))) H26)
 (c_law28_own C p_l (fun r29 H30 =>
 apS ([slv Sl.nil]) 24 r29 r18 (fun r31 H32 =>
 c_ref28_Same C r23 r31 (fun r33 H34 =>
 K r33 H34) H32) H30) H26))) H21) H16)) H10))
 (fun J5 => ift (r1 || (decide (((List.length p_s : Int) : Int) > 5000)))
 (J5 true H2)
 (c_law28_awake C (fun r8 H9 =>
 J5 (!r8) H9) H2))) H

theorem ad_law28_CsvRow (C : Ctx) (p_l : Sl) (p_s : Str) (K : Bool → Heap → Prop) (H : Heap) (h : sh_law28_CsvRow C p_l p_s K H) : c_law28_CsvRow C p_l p_s K H := by
  refine Spec.enter Tryd.func8 rfl Tryd.ntmps8 rfl ?_
  refine GC.sub [(0, slv p_l), (1, sv p_s)] ⟨rfl, rfl, trivial⟩ ?_
  refine GC.seq ?_
  refine GC.region ?_
  refine GL.val trivial rfl (OV.assign (v := .bool false) rfl) ?_
  refine GL.nil ?_
  refine GC.seq ?_
  refine GC.seq ?_
  refine GC.region ?_
  refine GL.val trivial rfl (OV.move (v := slv p_l) rfl) ?_
  refine GL.call h trivial rfl ok_law28_large (vs := [slv p_l]) rfl ?_
  rintro _ H2 ⟨r1, rfl, h⟩
  refine GL.val trivial rfl (OV.move (v := .bool r1) rfl) ?_
  refine GL.cut0 4 [(19, .bool (r1 || (decide (((List.length p_s : Int) : Int) > 5000)))), (0, slv p_l), (1, sv p_s)] ?_ ?_
  · rcases Bool.eq_false_or_eq_true r1 with hc3 | hc3
    · skip
      refine GL.skip ⟨_, rfl, .inl ⟨_, rfl, hc3⟩⟩ rfl ?_
      refine GL.skip ⟨_, rfl, .inl ⟨_, rfl, hc3⟩⟩ rfl ?_
      refine GL.skip ⟨_, rfl, .inl ⟨_, rfl, hc3⟩⟩ rfl ?_
      refine GL.val trivial rfl (OV.pickT (b := r1) (v := .bool true) rfl hc3 rfl) ?_
      exact GL.jump0 (fun _ _ h => h) () rfl ⟨(by rw [hc3]; rfl), rfl, rfl, trivial⟩
    · skip
      refine GL.val ⟨_, _, rfl, rfl, hc3⟩ rfl (OV.move (v := sv p_s) rfl) ?_
      refine GL.val ⟨_, _, rfl, rfl, hc3⟩ rfl (OV.lenStr (s := p_s) rfl rfl) ?_
      refine GL.val ⟨_, _, rfl, rfl, hc3⟩ rfl (OV.ibin (v := .bool (decide (((List.length p_s : Int) : Int) > 5000))) rfl rfl rfl) ?_
      refine GL.val trivial rfl (OV.pickF (b := r1) (v := .bool (decide (((List.length p_s : Int) : Int) > 5000))) rfl hc3 rfl) ?_
      exact GL.jump0 (fun _ _ h => h) () rfl ⟨(by rw [hc3]; rfl), rfl, rfl, trivial⟩
  refine GL.val trivial rfl (OV.move (v := .bool (r1 || (decide (((List.length p_s : Int) : Int) > 5000)))) rfl) ?_
  obtain ⟨J5, h, hR6⟩ := h
  refine GL.cut (α := Bool) 3 J5 (fun b4 => [(23, .bool b4), (0, slv p_l), (1, sv p_s)]) ?_ ?_
  · rcases Bool.eq_false_or_eq_true (r1 || (decide (((List.length p_s : Int) : Int) > 5000))) with hc7 | hc7
    · skip
      replace h := And.left h hc7
      refine GL.skip ⟨_, rfl, .inl ⟨_, rfl, hc7⟩⟩ rfl ?_
      refine GL.skip ⟨_, rfl, .inl ⟨_, rfl, hc7⟩⟩ rfl ?_
      refine GL.val trivial rfl (OV.pickT (b := r1 || (decide (((List.length p_s : Int) : Int) > 5000))) (v := .bool true) rfl hc7 rfl) ?_
      exact GL.jump (fun _ _ h => h) true h ⟨rfl, rfl, rfl, trivial⟩
    · skip
      replace h := And.right h hc7
      refine GL.call h ⟨_, _, rfl, rfl, hc7⟩ rfl ok_law28_awake (vs := []) rfl ?_
      rintro _ H9 ⟨r8, rfl, h⟩
      refine GL.val ⟨_, _, rfl, rfl, hc7⟩ rfl (OV.not rfl) ?_
      refine GL.val trivial rfl (OV.pickF (b := r1 || (decide (((List.length p_s : Int) : Int) > 5000))) (v := .bool (!r8)) rfl hc7 rfl) ?_
      exact GL.jump (fun _ _ h => h) (!r8) h ⟨rfl, rfl, rfl, trivial⟩
  intro b4 H10 h
  replace h := hR6 b4 H10 h
  refine GL.nil ?_
  refine GC.cond (b := b4) rfl (fun hc11 => ?_) (fun hc11 => ?_)
  · replace h := And.left h hc11
    refine GC.seq ?_
    refine GC.region ?_
    refine GL.call h trivial rfl ok_law28_awake (vs := []) rfl ?_
    rintro _ H13 ⟨r12, rfl, h⟩
    refine GL.val trivial rfl (OV.assign (v := .bool r12) rfl) ?_
    refine GL.nil ?_
    exact GC.ret (fun _ _ hf hs => post_tmp1 rfl rfl hf hs ⟨r12, rfl, h⟩)
  · replace h := And.right h hc11
    refine GC.skip ?_
    refine GC.seq ?_
    refine GC.region ?_
    refine GL.val trivial rfl (OV.move (v := slv p_l) rfl) ?_
    refine GL.call h trivial rfl ok_csv_Write (vs := [slv p_l]) rfl ?_
    rintro _ H16 ⟨r14, r15, rfl, h⟩
    refine GL.val trivial rfl (OV.move (v := .tuple #[sv r14, .int .i64 r15]) rfl) ?_
    refine GL.val trivial rfl (OV.extract (v := sv r14) rfl rfl) ?_
    refine GL.val trivial rfl (OV.extract (v := .int .i64 r15) rfl rfl) ?_
    refine GL.val trivial rfl (OV.assign (v := sv r14) rfl) ?_
    refine GL.val trivial rfl (OV.assign (v := .int .i64 r15) rfl) ?_
    refine GL.nil ?_
    refine GC.seq ?_
    refine GC.seq ?_
    refine GC.region ?_
    refine GL.val trivial rfl (OV.move (v := .int .i64 r15) rfl) ?_
    refine GL.val trivial rfl (OV.ibin (v := .bool ((r15 : Int) != 0)) rfl rfl rfl) ?_
    refine GL.nil ?_
    refine GC.cond (b := (r15 : Int) != 0) rfl (fun hc17 => ?_) (fun hc17 => ?_)
    · replace h := And.left h hc17
      refine GC.seq ?_
      refine GC.region ?_
      refine GL.val trivial rfl (OV.move (v := .int .i64 r15) rfl) ?_
      refine GL.val trivial rfl (OV.ibin (v := .bool ((r15 : Int) == 1)) rfl rfl rfl) ?_
      refine GL.val trivial rfl (OV.assign (v := .bool ((r15 : Int) == 1)) rfl) ?_
      refine GL.nil ?_
      exact GC.ret (fun _ _ hf hs => post_tmp1 rfl rfl hf hs ⟨((r15 : Int) == 1), rfl, h⟩)
    · replace h := And.right h hc17
      refine GC.skip ?_
      refine GC.seq ?_
      refine GC.region ?_
      refine GL.val trivial rfl (OV.move (v := sv p_s) rfl) ?_
      refine GL.call h trivial rfl ok_csv_Read (vs := [sv p_s]) rfl ?_
      rintro _ H21 ⟨r18, r19, r20, rfl, h⟩
      refine GL.val trivial rfl (OV.move (v := .tuple #[slv r18, .int .i64 r19, .int .i64 r20]) rfl) ?_
      refine GL.val trivial rfl (OV.extract (v := slv r18) rfl rfl) ?_
      refine GL.val trivial rfl (OV.extract (v := .int .i64 r19) rfl rfl) ?_
      refine GL.val trivial rfl (OV.extract (v := .int .i64 r20) rfl rfl) ?_
      refine GL.val trivial rfl (OV.assign (v := slv r18) rfl) ?_
      refine GL.val trivial rfl (OV.assign (v := .int .i64 r19) rfl) ?_
      refine GL.val trivial rfl (OV.assign (v := .int .i64 r20) rfl) ?_
      refine GL.nil ?_
      refine GC.seq ?_
      refine GC.region ?_
      refine GL.val trivial rfl (OV.move (v := sv r14) rfl) ?_
      refine GL.val trivial rfl (OV.move (v := sv p_s) rfl) ?_
      obtain ⟨hl22, h⟩ := h
      refine GL.val trivial rfl (OV.cat (a := r14) (b := p_s) rfl rfl hl22) ?_
      refine GL.call h trivial rfl ok_csv_Read (vs := [sv (r14 ++ p_s)]) rfl ?_
      rintro _ H26 ⟨r23, r24, r25, rfl, h⟩
      refine GL.val trivial rfl (OV.move (v := .tuple #[slv r23, .int .i64 r24, .int .i64 r25]) rfl) ?_
      refine GL.val trivial rfl (OV.extract (v := slv r23) rfl rfl) ?_
      refine GL.val trivial rfl (OV.extract (v := .int .i64 r24) rfl rfl) ?_
      refine GL.val trivial rfl (OV.extract (v := .int .i64 r25) rfl rfl) ?_
      refine GL.val trivial rfl (OV.assign (v := slv r23) rfl) ?_
      refine GL.val trivial rfl (OV.assign (v := .int .i64 r24) rfl) ?_
      refine GL.val trivial rfl (OV.assign (v := .int .i64 r25) rfl) ?_
      refine GL.nil ?_
      refine GC.seq ?_
      refine GC.seq ?_
      refine GC.region ?_
      refine GL.val trivial rfl (OV.move (v := .int .i64 r20) rfl) ?_
      refine GL.val trivial rfl (OV.move (v := .int .i64 r25) rfl) ?_
      refine GL.val trivial rfl (OV.ibin (v := .bool ((r20 : Int) != r25)) rfl rfl rfl) ?_
      refine GL.nil ?_
      refine GC.cond (b := (r20 : Int) != r25) rfl (fun hc27 => ?_) (fun hc27 => ?_)
      · replace h := And.left h hc27
        refine GC.seq ?_
        refine GC.region ?_
        refine GL.val trivial rfl (OV.assign (v := .bool false) rfl) ?_
        refine GL.nil ?_
        exact GC.ret (fun _ _ hf hs => post_tmp1 rfl rfl hf hs ⟨false, rfl, h⟩)
      · replace h := And.right h hc27
        refine GC.skip ?_
        refine GC.seq ?_
        refine GC.seq ?_
        refine GC.region ?_
        refine GL.val trivial rfl (OV.move (v := .int .i64 r20) rfl) ?_
        refine GL.val trivial rfl (OV.ibin (v := .bool ((r20 : Int) != 0)) rfl rfl rfl) ?_
        refine GL.nil ?_
        refine GC.cond (b := (r20 : Int) != 0) rfl (fun hc28 => ?_) (fun hc28 => ?_)
        · replace h := And.left h hc28
          refine GC.seq ?_
          refine GC.region ?_
          refine GL.val trivial rfl (OV.move (v := .int .i64 r24) rfl) ?_
          refine GL.val trivial rfl (OV.move (v := .int .i64 r19) rfl) ?_
          refine GL.val trivial rfl (OV.move (v := slv p_l) rfl) ?_
          refine GL.val trivial rfl (OV.lenSl (s := p_l) rfl rfl) ?_
          refine GL.val trivial rfl (OV.ibin (v := .int .i64 (w .i64 (r19 + (Sl.len p_l : Int)))) rfl rfl rfl) ?_
          refine GL.val trivial rfl (OV.ibin (v := .bool ((r24 : Int) == (w .i64 (r19 + (Sl.len p_l : Int))))) rfl rfl rfl) ?_
          refine GL.val trivial rfl (OV.assign (v := .bool ((r24 : Int) == (w .i64 (r19 + (Sl.len p_l : Int))))) rfl) ?_
          refine GL.nil ?_
          exact GC.ret (fun _ _ hf hs => post_tmp1 rfl rfl hf hs ⟨((r24 : Int) == (w .i64 (r19 + (Sl.len p_l : Int)))), rfl, h⟩)
        · replace h := And.right h hc28
          refine GC.skip ?_
          refine GC.seq ?_
          refine GC.region ?_
          refine GL.val trivial rfl (OV.move (v := slv r23) rfl) ?_
          refine GL.val trivial rfl (OV.move (v := slv p_l) rfl) ?_
          refine GL.call h trivial rfl ok_law28_own (vs := [slv p_l]) rfl ?_
          rintro _ H30 ⟨r29, rfl, h⟩
          refine GL.val trivial rfl (OV.move (v := slv r18) rfl) ?_
          refine GL.appendS (s := r29) (s2 := r18) (zc := [slv Sl.nil]) (bytes := 24) h trivial rfl rfl rfl ⟨⟨_, _, _, rfl, rfl, rfl, rfl, rfl, rfl⟩⟩ rfl ?_
          intro r31 H32 h
          refine GL.call h trivial rfl ok_ref28_Same (vs := [slv r23, slv r31]) rfl ?_
          rintro _ H34 ⟨r33, rfl, h⟩
          refine GL.val trivial rfl (OV.assign (v := .bool r33) rfl) ?_
          refine GL.nil ?_
          exact GC.ret (fun _ _ hf hs => post_tmp1 rfl rfl hf hs ⟨r33, rfl, h⟩)

def sh_law28_awake (C : Ctx) (K : Bool → Heap → Prop) (H : Heap) : Prop :=
  c_csv_Read C [97, 44, 34, 98, 32, 34, 34, 99, 34, 34, 34, 44, 13, 10, 32, 100] (fun r1 r2 r3 H4 =>
 nw ([sv [97], sv [98, 44, 99], sv [34]]) (fun b5 H6 =>
 nw ([sv []]) (fun b7 H8 =>
 nw ([slv (Sl.of (some (b5, 0)) 3 3), slv (Sl.of (some (b7, 0)) 1 1)]) (fun b9 H10 =>
 c_csv_Write C (Sl.of (some (b9, 0)) 2 2) (fun r11 r12 H13 =>
 jn (α := Bool) (fun b15 H27 =>
 K ((b15 && ((r12 : Int) == 0)) && (r11 == ([97, 44, 34, 98, 44, 99, 34, 44, 34, 34, 34, 34, 13, 10, 34, 34, 13, 10] : Str))) H27)
 (fun J16 => ift (((r3 : Int) == 0) && ((r2 : Int) == 0))
 (nw ([sv [97], sv [98, 32, 34, 99, 34], sv []]) (fun b19 H20 =>
 nw ([sv [32, 100]]) (fun b21 H22 =>
 nw ([slv (Sl.of (some (b19, 0)) 3 3), slv (Sl.of (some (b21, 0)) 1 1)]) (fun b23 H24 =>
 c_ref28_Same C r1 (Sl.of (some (b23, 0)) 2 2) (fun r25 H26 =>
 J16 r25 H26) H24) H22) H20) H13)
 (J16 false H13))) H10) H8) H6) H4) H

theorem ad_law28_awake (C : Ctx) (K : Bool → Heap → Prop) (H : Heap) (h : sh_law28_awake C  K H) : c_law28_awake C  K H := by
  refine Spec.enter Tryd.func9 rfl Tryd.ntmps9 rfl ?_
  refine GC.sub [] trivial ?_
  refine GC.seq ?_
  refine GC.region ?_
  refine GL.val trivial rfl (OV.assign (v := .bool false) rfl) ?_
  refine GL.nil ?_
  refine GC.seq ?_
  refine GC.region ?_
  refine GL.call h trivial rfl ok_csv_Read (vs := [sv [97, 44, 34, 98, 32, 34, 34, 99, 34, 34, 34, 44, 13, 10, 32, 100]]) rfl ?_
  rintro _ H4 ⟨r1, r2, r3, rfl, h⟩
  refine GL.val trivial rfl (OV.move (v := .tuple #[slv r1, .int .i64 r2, .int .i64 r3]) rfl) ?_
  refine GL.val trivial rfl (OV.extract (v := slv r1) rfl rfl) ?_
  refine GL.val trivial rfl (OV.extract (v := .int .i64 r2) rfl rfl) ?_
  refine GL.val trivial rfl (OV.extract (v := .int .i64 r3) rfl rfl) ?_
  refine GL.val trivial rfl (OV.assign (v := slv r1) rfl) ?_
  refine GL.val trivial rfl (OV.assign (v := .int .i64 r2) rfl) ?_
  refine GL.val trivial rfl (OV.assign (v := .int .i64 r3) rfl) ?_
  refine GL.nil ?_
  refine GC.seq ?_
  refine GC.region ?_
  refine GL.buildSlice (cs := [sv [97], sv [98, 44, 99], sv [34]]) h trivial rfl (vs := [(0, sv [97]), (1, sv [98, 44, 99]), (2, sv [34])]) rfl ⟨9, fun _ => by kernel_rfl⟩ ?_
  intro b5 H6 h
  refine GL.buildSlice (cs := [sv []]) h trivial rfl (vs := [(0, sv [])]) rfl ⟨9, fun _ => by kernel_rfl⟩ ?_
  intro b7 H8 h
  refine GL.buildSlice (cs := [slv (Sl.of (some (b5, 0)) 3 3), slv (Sl.of (some (b7, 0)) 1 1)]) h trivial rfl (vs := [(0, slv (Sl.of (some (b5, 0)) 3 3)), (1, slv (Sl.of (some (b7, 0)) 1 1))]) rfl ⟨28, fun _ => by kernel_rfl⟩ ?_
  intro b9 H10 h
  refine GL.call h trivial rfl ok_csv_Write (vs := [slv (Sl.of (some (b9, 0)) 2 2)]) rfl ?_
  rintro _ H13 ⟨r11, r12, rfl, h⟩
  refine GL.val trivial rfl (OV.move (v := .tuple #[sv r11, .int .i64 r12]) rfl) ?_
  refine GL.val trivial rfl (OV.extract (v := sv r11) rfl rfl) ?_
  refine GL.val trivial rfl (OV.extract (v := .int .i64 r12) rfl rfl) ?_
  refine GL.val trivial rfl (OV.assign (v := sv r11) rfl) ?_
  refine GL.val trivial rfl (OV.assign (v := .int .i64 r12) rfl) ?_
  refine GL.nil ?_
  refine GC.seq ?_
  refine GC.region ?_
  refine GL.val trivial rfl (OV.move (v := .int .i64 r3) rfl) ?_
  refine GL.val trivial rfl (OV.ibin (v := .bool ((r3 : Int) == 0)) rfl rfl rfl) ?_
  refine GL.val trivial rfl (OV.move (v := .bool ((r3 : Int) == 0)) rfl) ?_
  refine GL.cut0 3 [(23, .bool (((r3 : Int) == 0) && ((r2 : Int) == 0))), (1, slv r1), (4, sv r11), (5, .int .i64 r12)] ?_ ?_
  · rcases Bool.eq_false_or_eq_true ((r3 : Int) == 0) with hc14 | hc14
    · skip
      refine GL.val ⟨_, _, rfl, rfl, hc14⟩ rfl (OV.move (v := .int .i64 r2) rfl) ?_
      refine GL.val ⟨_, _, rfl, rfl, hc14⟩ rfl (OV.ibin (v := .bool ((r2 : Int) == 0)) rfl rfl rfl) ?_
      refine GL.val trivial rfl (OV.pickT (b := (r3 : Int) == 0) (v := .bool ((r2 : Int) == 0)) rfl hc14 rfl) ?_
      exact GL.jump0 (fun _ _ h => h) () rfl ⟨(by rw [hc14]; rfl), rfl, rfl, rfl, trivial⟩
    · skip
      refine GL.skip ⟨_, rfl, .inl ⟨_, rfl, hc14⟩⟩ rfl ?_
      refine GL.skip ⟨_, rfl, .inl ⟨_, rfl, hc14⟩⟩ rfl ?_
      refine GL.val trivial rfl (OV.pickF (b := (r3 : Int) == 0) (v := .bool false) rfl hc14 rfl) ?_
      exact GL.jump0 (fun _ _ h => h) () rfl ⟨(by rw [hc14]; rfl), rfl, rfl, rfl, trivial⟩
  refine GL.val trivial rfl (OV.move (v := .bool (((r3 : Int) == 0) && ((r2 : Int) == 0))) rfl) ?_
  obtain ⟨J16, h, hR17⟩ := h
  refine GL.cut (α := Bool) 6 J16 (fun b15 => [(30, .bool b15), (4, sv r11), (5, .int .i64 r12)]) ?_ ?_
  · rcases Bool.eq_false_or_eq_true (((r3 : Int) == 0) && ((r2 : Int) == 0)) with hc18 | hc18
    · skip
      replace h := And.left h hc18
      refine GL.val ⟨_, _, rfl, rfl, hc18⟩ rfl (OV.move (v := slv r1) rfl) ?_
      refine GL.buildSlice (cs := [sv [97], sv [98, 32, 34, 99, 34], sv []]) h ⟨_, _, rfl, rfl, hc18⟩ rfl (vs := [(0, sv [97]), (1, sv [98, 32, 34, 99, 34]), (2, sv [])]) rfl ⟨9, fun _ => by kernel_rfl⟩ ?_
      intro b19 H20 h
      refine GL.buildSlice (cs := [sv [32, 100]]) h ⟨_, _, rfl, rfl, hc18⟩ rfl (vs := [(0, sv [32, 100])]) rfl ⟨9, fun _ => by kernel_rfl⟩ ?_
      intro b21 H22 h
      refine GL.buildSlice (cs := [slv (Sl.of (some (b19, 0)) 3 3), slv (Sl.of (some (b21, 0)) 1 1)]) h ⟨_, _, rfl, rfl, hc18⟩ rfl (vs := [(0, slv (Sl.of (some (b19, 0)) 3 3)), (1, slv (Sl.of (some (b21, 0)) 1 1))]) rfl ⟨28, fun _ => by kernel_rfl⟩ ?_
      intro b23 H24 h
      refine GL.call h ⟨_, _, rfl, rfl, hc18⟩ rfl ok_ref28_Same (vs := [slv r1, slv (Sl.of (some (b23, 0)) 2 2)]) rfl ?_
      rintro _ H26 ⟨r25, rfl, h⟩
      refine GL.val trivial rfl (OV.pickT (b := ((r3 : Int) == 0) && ((r2 : Int) == 0)) (v := .bool r25) rfl hc18 rfl) ?_
      exact GL.jump (fun _ _ h => h) r25 h ⟨rfl, rfl, rfl, trivial⟩
    · skip
      replace h := And.right h hc18
      refine GL.skip ⟨_, rfl, .inl ⟨_, rfl, hc18⟩⟩ rfl ?_
      refine GL.skip ⟨_, rfl, .inl ⟨_, rfl, hc18⟩⟩ rfl ?_
      refine GL.skip ⟨_, rfl, .inl ⟨_, rfl, hc18⟩⟩ rfl ?_
      refine GL.skip ⟨_, rfl, .inl ⟨_, rfl, hc18⟩⟩ rfl ?_
      refine GL.skip ⟨_, rfl, .inl ⟨_, rfl, hc18⟩⟩ rfl ?_
      refine GL.val trivial rfl (OV.pickF (b := ((r3 : Int) == 0) && ((r2 : Int) == 0)) (v := .bool false) rfl hc18 rfl) ?_
      exact GL.jump (fun _ _ h => h) false h ⟨rfl, rfl, rfl, trivial⟩
  intro b15 H27 h
  replace h := hR17 b15 H27 h
  refine GL.val trivial rfl (OV.move (v := .bool b15) rfl) ?_
  refine GL.cut0 3 [(34, .bool (b15 && ((r12 : Int) == 0))), (4, sv r11)] ?_ ?_
  · rcases Bool.eq_false_or_eq_true b15 with hc28 | hc28
    · skip
      refine GL.val ⟨_, _, rfl, rfl, hc28⟩ rfl (OV.move (v := .int .i64 r12) rfl) ?_
      refine GL.val ⟨_, _, rfl, rfl, hc28⟩ rfl (OV.ibin (v := .bool ((r12 : Int) == 0)) rfl rfl rfl) ?_
      refine GL.val trivial rfl (OV.pickT (b := b15) (v := .bool ((r12 : Int) == 0)) rfl hc28 rfl) ?_
      exact GL.jump0 (fun _ _ h => h) () rfl ⟨(by rw [hc28]; rfl), rfl, trivial⟩
    · skip
      refine GL.skip ⟨_, rfl, .inl ⟨_, rfl, hc28⟩⟩ rfl ?_
      refine GL.skip ⟨_, rfl, .inl ⟨_, rfl, hc28⟩⟩ rfl ?_
      refine GL.val trivial rfl (OV.pickF (b := b15) (v := .bool false) rfl hc28 rfl) ?_
      exact GL.jump0 (fun _ _ h => h) () rfl ⟨(by rw [hc28]; rfl), rfl, trivial⟩
  refine GL.val trivial rfl (OV.move (v := .bool (b15 && ((r12 : Int) == 0))) rfl) ?_
  refine GL.cut0 3 [(38, .bool ((b15 && ((r12 : Int) == 0)) && (r11 == ([97, 44, 34, 98, 44, 99, 34, 44, 34, 34, 34, 34, 13, 10, 34, 34, 13, 10] : Str))))] ?_ ?_
  · rcases Bool.eq_false_or_eq_true (b15 && ((r12 : Int) == 0)) with hc29 | hc29
    · skip
      refine GL.val ⟨_, _, rfl, rfl, hc29⟩ rfl (OV.move (v := sv r11) rfl) ?_
      refine GL.val ⟨_, _, rfl, rfl, hc29⟩ rfl (OV.sbin (a := r11) (b := ([97, 44, 34, 98, 44, 99, 34, 44, 34, 34, 34, 34, 13, 10, 34, 34, 13, 10] : Str)) (v := .bool (r11 == ([97, 44, 34, 98, 44, 99, 34, 44, 34, 34, 34, 34, 13, 10, 34, 34, 13, 10] : Str))) rfl rfl rfl) ?_
      refine GL.val trivial rfl (OV.pickT (b := b15 && ((r12 : Int) == 0)) (v := .bool (r11 == ([97, 44, 34, 98, 44, 99, 34, 44, 34, 34, 34, 34, 13, 10, 34, 34, 13, 10] : Str))) rfl hc29 rfl) ?_
      exact GL.jump0 (fun _ _ h => h) () rfl ⟨(by rw [hc29]; rfl), trivial⟩
    · skip
      refine GL.skip ⟨_, rfl, .inl ⟨_, rfl, hc29⟩⟩ rfl ?_
      refine GL.skip ⟨_, rfl, .inl ⟨_, rfl, hc29⟩⟩ rfl ?_
      refine GL.val trivial rfl (OV.pickF (b := b15 && ((r12 : Int) == 0)) (v := .bool false) rfl hc29 rfl) ?_
      exact GL.jump0 (fun _ _ h => h) () rfl ⟨(by rw [hc29]; rfl), trivial⟩
  refine GL.val trivial rfl (OV.assign (v := .bool ((b15 && ((r12 : Int) == 0)) && (r11 == ([97, 44, 34, 98, 44, 99, 34, 44, 34, 34, 34, 34, 13, 10, 34, 34, 13, 10] : Str)))) rfl) ?_
  refine GL.nil ?_
  exact GC.ret (fun _ _ hf hs => post_tmp1 rfl rfl hf hs ⟨((b15 && ((r12 : Int) == 0)) && (r11 == ([97, 44, 34, 98, 44, 99, 34, 44, 34, 34, 34, 34, 13, 10, 34, 34, 13, 10] : Str))), rfl, h⟩)

def sh_csv_Read (C : Ctx) (p_text : Str) (K : Sl → Int → Int → Heap → Prop) (H : Heap) : Prop :=
  nw ([slv Sl.nil]) (fun b1 H2 =>
 nw ([slv Sl.nil]) (fun b3 H4 =>
 nwB 42 5 (fun b5 H6 =>
 nw ([.int .i64 0]) (fun b7 H8 =>
 nw ([.bool false]) (fun b9 H10 =>
 st (b7, 0) (.int .i64 0) (fun H11 =>
 st (b9, 0) (.bool false) (fun H12 =>
 nw ([.nilFunc]) (fun b13 H14 =>
 st (b13, 0) (.func (.func 17) (List.toArray []) (List.toArray [pv (some (b3, 0)), pv (some (b5, 0)), pv (some (b7, 0))])) (fun H15 =>
 jn (α := Unit) (fun x17 H18 =>
 ldI H18 .i64 (b7, 0) fun x97 =>
 ift ((x97 : Int) == 2)
 (ldL H18 (b1, 0) fun x100 =>
 K Sl.nil (Sl.len x100 : Int) 4 H18)
 (jn (α := Unit) (fun x103 H104 =>
 ldL H104 (b1, 0) fun x110 =>
 K x110 0 0 H104)
 (fun J102 => ldB H18 (b9, 0) fun x106 =>
 ift x106
 (c_csv_Read_2 C (b13, 0) (b1, 0) (b3, 0) (b9, 0) (fun H109 =>
 J102 () H109) H18)
 (J102 () H18))))
 (fun J16 => lp (α := Int) 0 H15 (fun x20 J21 H22 =>
 ift (decide ((x20 : Int) < (List.length p_text : Int)))
 (jn (α := Unit) (fun x25 H26 =>
 J21 (w .i64 (x20 + 1)) H26)
 (fun J24 => ixs p_text x20 fun c28 =>
 ldI H22 .i64 (b7, 0) fun x31 =>
 ift ((x31 : Int) == 2)
 (jn (α := Unit) (fun x35 H36 =>
 J24 () H36)
 (fun J34 => ift (((c28.toNat : Int) : Int) == 34)
 (st (b7, 0) (.int .i64 3) (fun H39 =>
 J34 () H39) H22)
 (c_strings_Builder_WriteByte C (some (b5, 0)) (c28.toNat : Int) (fun r40 H41 =>
 J34 () H41) H22)))
 (st (b9, 0) (.bool true) (fun H42 =>
 ift (((c28.toNat : Int) : Int) == 44)
 (ldV H42 (b13, 0) fun x44 =>
 callU Tryd.prog C x44 [] H42 (fun v H46 => v = .tuple #[] ∧
 J24 () H46))
 (jn (α := Bool) (fun b47 H59 =>
 ift b47
 (st (b7, 0) (.int .i64 2) (fun H61 =>
 J16 () H61) H59)
 (ift (((c28.toNat : Int) : Int) == 13)
 (J24 () H59)
 (ift (((c28.toNat : Int) : Int) == 10)
 (c_csv_Read_2 C (b13, 0) (b1, 0) (b3, 0) (b9, 0) (fun H64 =>
 J24 () H64) H59)
 (jn (α := Bool) (fun b65 H71 =>
 ift b65
 (st (b7, 0) (.int .i64 2) (fun H73 =>
 J24 () H73) H71)
 (jn (α := Bool) (fun b74 H80 =>
 ift b74
 (c_strings_Builder_WriteByte C (some (b5, 0)) (c28.toNat : Int) (fun r82 H83 =>
 st (b7, 0) (.int .i64 2) (fun H84 =>
 J24 () H84) H83) H80)
 (jn (α := Bool) (fun b85 H91 =>
 ift b85
 (st (b7, 0) (.int .i64 2) (fun H93 =>
 J16 () H93) H91)
 (c_strings_Builder_WriteByte C (some (b5, 0)) (c28.toNat : Int) (fun r94 H95 =>
 st (b7, 0) (.int .i64 1) (fun H96 =>
 J24 () H96) H95) H91))
 (fun J86 => ift (((c28.toNat : Int) : Int) == 34)
 (J86 true H80)
 (ldI H80 .i64 (b7, 0) fun x89 =>
 J86 ((x89 : Int) == 3) H80))))
 (fun J75 => ift (((c28.toNat : Int) : Int) == 34)
 (ldI H71 .i64 (b7, 0) fun x78 =>
 J75 ((x78 : Int) == 3) H71)
 (J75 false H71))))
 (fun J66 => ift (((c28.toNat : Int) : Int) == 34)
 (ldI H59 .i64 (b7, 0) fun x69 =>
 J66 ((x69 : Int) == 0) H59)
 (J66 false H59))))))
 (fun J48 => ift (((c28.toNat : Int) : Int) == 13)
 (jn (α := Bool) (fun b51 H58 =>
 J48 b51 H58)
 (fun J52 => ift (((w .i64 (x20 + 1)) : Int) == (List.length p_text : Int))
 (J52 true H42)
 (ixs p_text (w .i64 (x20 + 1)) fun c55 =>
 J52 (((c55.toNat : Int) : Int) != 10) H42)))
 (J48 false H42)))) H22)))
 (J16 () H22)))) H14) H12) H11) H10) H8) H6) H4) H2) H

theorem ad_csv_Read (C : Ctx) (p_text : Str) (K : Sl → Int → Int → Heap → Prop) (H : Heap) (h : sh_csv_Read C p_text K H) : c_csv_Read C p_text K H := by
  refine Spec.enter Tryd.func10 rfl Tryd.ntmps10 rfl ?_
  refine GC.sub [(0, sv p_text)] ⟨rfl, trivial⟩ ?_
  refine GC.seq ?_
  refine GC.region ?_
  refine GL.val trivial rfl (OV.assign (v := slv Sl.nil) rfl) ?_
  refine GL.val trivial rfl (OV.assign (v := .int .i64 0) rfl) ?_
  refine GL.val trivial rfl (OV.assign (v := .int .i64 0) rfl) ?_
  refine GL.nil ?_
  refine GC.scope ?_
  refine GC.seq ?_
  refine GC.region ?_
  refine GL.alloc (cs := [slv Sl.nil]) h trivial rfl rfl rfl ?_
  intro b1 H2 h
  refine GL.nil ?_
  refine GC.seq ?_
  refine GC.region ?_
  refine GL.alloc (cs := [slv Sl.nil]) h trivial rfl rfl rfl ?_
  intro b3 H4 h
  refine GL.nil ?_
  refine GC.seq ?_
  refine GC.region ?_
  refine GL.allocB (T := 42) (e := 5) h trivial rfl rfl rfl ?_
  intro b5 H6 h
  refine GL.nil ?_
  refine GC.seq ?_
  refine GC.region ?_
  refine GL.alloc (cs := [.int .i64 0]) h trivial rfl rfl rfl ?_
  intro b7 H8 h
  refine GL.alloc (cs := [.bool false]) h trivial rfl rfl rfl ?_
  intro b9 H10 h
  refine GL.store (p := (b7, 0)) (v := .int .i64 0) h trivial rfl rfl rfl rfl ?_
  intro H11 h
  refine GL.store (p := (b9, 0)) (v := .bool false) h trivial rfl rfl rfl rfl ?_
  intro H12 h
  refine GL.nil ?_
  refine GC.seq ?_
  refine GC.region ?_
  refine GL.val trivial rfl (OV.makeFunc (vs := []) (us := [pv (some (b3, 0)), pv (some (b5, 0)), pv (some (b7, 0))]) rfl rfl) ?_
  refine GL.alloc (cs := [.nilFunc]) h trivial rfl rfl rfl ?_
  intro b13 H14 h
  refine GL.store (p := (b13, 0)) (v := .func (.func 17) (List.toArray []) (List.toArray [pv (some (b3, 0)), pv (some (b5, 0)), pv (some (b7, 0))])) h trivial rfl rfl rfl rfl ?_
  intro H15 h
  refine GL.nil ?_
  refine GC.seq ?_
  refine GC.region ?_
  refine GL.val trivial rfl (OV.makeFunc (vs := []) (us := [pv (some (b13, 0)), pv (some (b1, 0)), pv (some (b3, 0)), pv (some (b9, 0))]) rfl rfl) ?_
  refine GL.val trivial rfl (OV.assign (v := .func (.func 20) (List.toArray []) (List.toArray [pv (some (b13, 0)), pv (some (b1, 0)), pv (some (b3, 0)), pv (some (b9, 0))])) rfl) ?_
  refine GL.nil ?_
  refine GC.seq ?_
  refine GC.label ?_
  obtain ⟨J16, h, hR19⟩ := h
  refine GC.join (α := Unit) J16 (fun _ => [(5, pv (some (b1, 0))), (8, pv (some (b7, 0))), (9, pv (some (b9, 0))), (11, .func (.func 20) (List.toArray []) (List.toArray [pv (some (b13, 0)), pv (some (b1, 0)), pv (some (b3, 0)), pv (some (b9, 0))]))]) ?_ ?_
  · skip
    refine GC.seq ?_
    refine GC.region ?_
    refine GL.val trivial rfl (OV.assign (v := .int .i64 0) rfl) ?_
    refine GL.nil ?_
    refine GC.block ?_
    refine GC.loop (α := Int) h (fun x20 => [(12, .int .i64 x20), (0, sv p_text), (5, pv (some (b1, 0))), (7, pv (some (b5, 0))), (8, pv (some (b7, 0))), (9, pv (some (b9, 0))), (10, pv (some (b13, 0))), (11, .func (.func 20) (List.toArray []) (List.toArray [pv (some (b13, 0)), pv (some (b1, 0)), pv (some (b3, 0)), pv (some (b9, 0))]))]) ⟨rfl, rfl, rfl, rfl, rfl, rfl, rfl, rfl, trivial⟩ ?_
    intro x20 H22 J21 h
    refine GC.seq ?_
    refine GC.seq ?_
    refine GC.region ?_
    refine GL.val trivial rfl (OV.move (v := .int .i64 x20) rfl) ?_
    refine GL.val trivial rfl (OV.move (v := sv p_text) rfl) ?_
    refine GL.val trivial rfl (OV.lenStr (s := p_text) rfl rfl) ?_
    refine GL.val trivial rfl (OV.ibin (v := .bool (decide ((x20 : Int) < (List.length p_text : Int)))) rfl rfl rfl) ?_
    refine GL.nil ?_
    refine GC.cond (b := decide ((x20 : Int) < (List.length p_text : Int))) rfl (fun hc23 => ?_) (fun hc23 => ?_)
    · replace h := And.left h hc23
      refine GC.skip ?_
      obtain ⟨J24, h, hR27⟩ := h
      refine GC.join (α := Unit) J24 (fun _ => [(0, sv p_text), (5, pv (some (b1, 0))), (7, pv (some (b5, 0))), (8, pv (some (b7, 0))), (9, pv (some (b9, 0))), (10, pv (some (b13, 0))), (11, .func (.func 20) (List.toArray []) (List.toArray [pv (some (b13, 0)), pv (some (b1, 0)), pv (some (b3, 0)), pv (some (b9, 0))])), (12, .int .i64 x20)]) ?_ ?_
      · skip
        refine GC.block ?_
        refine GC.seq ?_
        refine GC.region ?_
        refine GL.val trivial rfl (OV.move (v := sv p_text) rfl) ?_
        refine GL.val trivial rfl (OV.move (v := .int .i64 x20) rfl) ?_
        obtain ⟨c28, ha29, hb30, h⟩ := h
        refine GL.val trivial rfl (OV.indexStr (s := p_text) rfl rfl rfl ha29 hb30) ?_
        refine GL.val trivial rfl (OV.assign (v := .int .u8 (c28.toNat : Int)) rfl) ?_
        refine GL.nil ?_
        refine GC.seq ?_
        refine GC.seq ?_
        refine GC.region ?_
        obtain ⟨x31, hr32, h⟩ := h
        refine GL.val trivial rfl (OV.load (p := (b7, 0)) rfl rfl hr32) ?_
        refine GL.val trivial rfl (OV.ibin (v := .bool ((x31 : Int) == 2)) rfl rfl rfl) ?_
        refine GL.nil ?_
        refine GC.cond (b := (x31 : Int) == 2) rfl (fun hc33 => ?_) (fun hc33 => ?_)
        · replace h := And.left h hc33
          obtain ⟨J34, h, hR37⟩ := h
          refine GC.join (α := Unit) J34 (fun _ => [(0, sv p_text), (5, pv (some (b1, 0))), (7, pv (some (b5, 0))), (8, pv (some (b7, 0))), (9, pv (some (b9, 0))), (10, pv (some (b13, 0))), (11, .func (.func 20) (List.toArray []) (List.toArray [pv (some (b13, 0)), pv (some (b1, 0)), pv (some (b3, 0)), pv (some (b9, 0))])), (12, .int .i64 x20)]) ?_ ?_
          · skip
            refine GC.seq ?_
            refine GC.region ?_
            refine GL.val trivial rfl (OV.move (v := .int .u8 (c28.toNat : Int)) rfl) ?_
            refine GL.val trivial rfl (OV.ibin (v := .bool (((c28.toNat : Int) : Int) == 34)) rfl rfl rfl) ?_
            refine GL.nil ?_
            refine GC.cond (b := ((c28.toNat : Int) : Int) == 34) rfl (fun hc38 => ?_) (fun hc38 => ?_)
            · replace h := And.left h hc38
              refine GC.region ?_
              refine GL.store (p := (b7, 0)) (v := .int .i64 3) h trivial rfl rfl rfl rfl ?_
              intro H39 h
              exact GL.jump (fun _ _ h => h) () h ⟨rfl, rfl, rfl, rfl, rfl, rfl, rfl, rfl, trivial⟩
            · replace h := And.right h hc38
              refine GC.region ?_
              refine GL.val trivial rfl (OV.move (v := .int .u8 (c28.toNat : Int)) rfl) ?_
              refine GL.call h trivial rfl ok_strings_Builder_WriteByte (vs := [pv (some (b5, 0)), .int .u8 (c28.toNat : Int)]) rfl ?_
              rintro _ H41 ⟨r40, rfl, h⟩
              exact GL.jump (fun _ _ h => h) () h ⟨rfl, rfl, rfl, rfl, rfl, rfl, rfl, rfl, trivial⟩
          · intro x35 H36 h
            replace h := hR37 x35 H36 h
            exact GC.exit_jump (fun _ _ h => h) () h ⟨rfl, rfl, rfl, rfl, rfl, rfl, rfl, rfl, trivial⟩
        · replace h := And.right h hc33
          refine GC.skip ?_
          refine GC.seq ?_
          refine GC.region ?_
          refine GL.store (p := (b9, 0)) (v := .bool true) h trivial rfl rfl rfl rfl ?_
          intro H42 h
          refine GL.nil ?_
          refine GC.block ?_
          refine GC.seq ?_
          refine GC.region ?_
          refine GL.val trivial rfl (OV.move (v := .int .u8 (c28.toNat : Int)) rfl) ?_
          refine GL.val trivial rfl (OV.ibin (v := .bool (((c28.toNat : Int) : Int) == 44)) rfl rfl rfl) ?_
          refine GL.val trivial rfl (OV.assign (v := .bool (((c28.toNat : Int) : Int) == 44)) rfl) ?_
          refine GL.nil ?_
          refine GC.cond (b := ((c28.toNat : Int) : Int) == 44) rfl (fun hc43 => ?_) (fun hc43 => ?_)
          · replace h := And.left h hc43
            refine GC.region ?_
            obtain ⟨x44, hr45, h⟩ := h
            refine GL.val trivial rfl (OV.load (p := (b13, 0)) rfl rfl hr45) ?_
            refine GL.callU (xv := x44) (vs := []) h trivial rfl rfl rfl ?_
            rintro _ H46 ⟨rfl, h⟩
            exact GL.jump (fun _ _ h => h) () h ⟨rfl, rfl, rfl, rfl, rfl, rfl, rfl, rfl, trivial⟩
          · replace h := And.right h hc43
            refine GC.seq ?_
            refine GC.region ?_
            refine GL.val trivial rfl (OV.move (v := .int .u8 (c28.toNat : Int)) rfl) ?_
            refine GL.val trivial rfl (OV.ibin (v := .bool (((c28.toNat : Int) : Int) == 13)) rfl rfl rfl) ?_
            refine GL.val trivial rfl (OV.move (v := .bool (((c28.toNat : Int) : Int) == 13)) rfl) ?_
            obtain ⟨J48, h, hR49⟩ := h
            refine GL.cut (α := Bool) 13 J48 (fun b47 => [(54, .bool b47), (0, sv p_text), (5, pv (some (b1, 0))), (7, pv (some (b5, 0))), (8, pv (some (b7, 0))), (9, pv (some (b9, 0))), (10, pv (some (b13, 0))), (11, .func (.func 20) (List.toArray []) (List.toArray [pv (some (b13, 0)), pv (some (b1, 0)), pv (some (b3, 0)), pv (some (b9, 0))])), (12, .int .i64 x20), (13, .int .u8 (c28.toNat : Int))]) ?_ ?_
            · rcases Bool.eq_false_or_eq_true (((c28.toNat : Int) : Int) == 13) with hc50 | hc50
              · skip
                replace h := And.left h hc50
                refine GL.val ⟨_, _, rfl, rfl, hc50⟩ rfl (OV.move (v := .int .i64 x20) rfl) ?_
                refine GL.val ⟨_, _, rfl, rfl, hc50⟩ rfl (OV.ibin (v := .int .i64 (w .i64 (x20 + 1))) rfl rfl rfl) ?_
                refine GL.val ⟨_, _, rfl, rfl, hc50⟩ rfl (OV.move (v := sv p_text) rfl) ?_
                refine GL.val ⟨_, _, rfl, rfl, hc50⟩ rfl (OV.lenStr (s := p_text) rfl rfl) ?_
                refine GL.val ⟨_, _, rfl, rfl, hc50⟩ rfl (OV.ibin (v := .bool (((w .i64 (x20 + 1)) : Int) == (List.length p_text : Int))) rfl rfl rfl) ?_
                refine GL.val ⟨_, _, rfl, rfl, hc50⟩ rfl (OV.move (v := .bool (((w .i64 (x20 + 1)) : Int) == (List.length p_text : Int))) rfl) ?_
                obtain ⟨J52, h, hR53⟩ := h
                refine GL.cut (α := Bool) 6 J52 (fun b51 => [(53, .bool b51), (0, sv p_text), (5, pv (some (b1, 0))), (7, pv (some (b5, 0))), (8, pv (some (b7, 0))), (9, pv (some (b9, 0))), (10, pv (some (b13, 0))), (11, .func (.func 20) (List.toArray []) (List.toArray [pv (some (b13, 0)), pv (some (b1, 0)), pv (some (b3, 0)), pv (some (b9, 0))])), (12, .int .i64 x20), (13, .int .u8 (c28.toNat : Int)), (41, .bool (((c28.toNat : Int) : Int) == 13))]) ?_ ?_
                · rcases Bool.eq_false_or_eq_true (((w .i64 (x20 + 1)) : Int) == (List.length p_text : Int)) with hc54 | hc54
                  · skip
                    replace h := And.left h hc54
                    refine GL.skip ⟨_, rfl, .inl ⟨_, rfl, hc54⟩⟩ rfl ?_
                    refine GL.skip ⟨_, rfl, .inl ⟨_, rfl, hc54⟩⟩ rfl ?_
                    refine GL.skip ⟨_, rfl, .inl ⟨_, rfl, hc54⟩⟩ rfl ?_
                    refine GL.skip ⟨_, rfl, .inl ⟨_, rfl, hc54⟩⟩ rfl ?_
                    refine GL.skip ⟨_, rfl, .inl ⟨_, rfl, hc54⟩⟩ rfl ?_
                    refine GL.val ⟨_, _, rfl, rfl, hc50⟩ rfl (OV.pickT (b := ((w .i64 (x20 + 1)) : Int) == (List.length p_text : Int)) (v := .bool true) rfl hc54 rfl) ?_
                    exact GL.jump (fun _ _ h => h) true h ⟨rfl, rfl, rfl, rfl, rfl, rfl, rfl, rfl, rfl, rfl, rfl, trivial⟩
                  · skip
                    replace h := And.right h hc54
                    refine GL.val ⟨_, _, rfl, rfl, hc54⟩ rfl (OV.move (v := sv p_text) rfl) ?_
                    refine GL.val ⟨_, _, rfl, rfl, hc54⟩ rfl (OV.move (v := .int .i64 x20) rfl) ?_
                    refine GL.val ⟨_, _, rfl, rfl, hc54⟩ rfl (OV.ibin (v := .int .i64 (w .i64 (x20 + 1))) rfl rfl rfl) ?_
                    obtain ⟨c55, ha56, hb57, h⟩ := h
                    refine GL.val ⟨_, _, rfl, rfl, hc54⟩ rfl (OV.indexStr (s := p_text) rfl rfl rfl ha56 hb57) ?_
                    refine GL.val ⟨_, _, rfl, rfl, hc54⟩ rfl (OV.ibin (v := .bool (((c55.toNat : Int) : Int) != 10)) rfl rfl rfl) ?_
                    refine GL.val ⟨_, _, rfl, rfl, hc50⟩ rfl (OV.pickF (b := ((w .i64 (x20 + 1)) : Int) == (List.length p_text : Int)) (v := .bool (((c55.toNat : Int) : Int) != 10)) rfl hc54 rfl) ?_
                    exact GL.jump (fun _ _ h => h) (((c55.toNat : Int) : Int) != 10) h ⟨rfl, rfl, rfl, rfl, rfl, rfl, rfl, rfl, rfl, rfl, rfl, trivial⟩
                intro b51 H58 h
                replace h := hR53 b51 H58 h
                refine GL.val trivial rfl (OV.pickT (b := ((c28.toNat : Int) : Int) == 13) (v := .bool b51) rfl hc50 rfl) ?_
                exact GL.jump (fun _ _ h => h) b51 h ⟨rfl, rfl, rfl, rfl, rfl, rfl, rfl, rfl, rfl, rfl, trivial⟩
              · skip
                replace h := And.right h hc50
                refine GL.skip ⟨_, rfl, .inl ⟨_, rfl, hc50⟩⟩ rfl ?_
                refine GL.skip ⟨_, rfl, .inl ⟨_, rfl, hc50⟩⟩ rfl ?_
                refine GL.skip ⟨_, rfl, .inl ⟨_, rfl, hc50⟩⟩ rfl ?_
                refine GL.skip ⟨_, rfl, .inl ⟨_, rfl, hc50⟩⟩ rfl ?_
                refine GL.skip ⟨_, rfl, .inl ⟨_, rfl, hc50⟩⟩ rfl ?_
                refine GL.skip ⟨_, rfl, .inl ⟨_, rfl, hc50⟩⟩ rfl ?_
                refine GL.skip ⟨_, rfl, .inr rfl⟩ rfl ?_
                refine GL.skip ⟨_, rfl, .inr rfl⟩ rfl ?_
                refine GL.skip ⟨_, rfl, .inr rfl⟩ rfl ?_
                refine GL.skip ⟨_, rfl, .inr rfl⟩ rfl ?_
                refine GL.skip ⟨_, rfl, .inr rfl⟩ rfl ?_
                refine GL.skip ⟨_, rfl, .inl ⟨_, rfl, hc50⟩⟩ rfl ?_
                refine GL.val trivial rfl (OV.pickF (b := ((c28.toNat : Int) : Int) == 13) (v := .bool false) rfl hc50 rfl) ?_
                exact GL.jump (fun _ _ h => h) false h ⟨rfl, rfl, rfl, rfl, rfl, rfl, rfl, rfl, rfl, rfl, trivial⟩
            intro b47 H59 h
            replace h := hR49 b47 H59 h
            refine GL.val trivial rfl (OV.assign (v := .bool b47) rfl) ?_
            refine GL.nil ?_
            refine GC.cond (b := b47) rfl (fun hc60 => ?_) (fun hc60 => ?_)
            · replace h := And.left h hc60
              refine GC.seq ?_
              refine GC.region ?_
              refine GL.store (p := (b7, 0)) (v := .int .i64 2) h trivial rfl rfl rfl rfl ?_
              intro H61 h
              refine GL.nil ?_
              exact GC.exit_jump (fun _ _ h => h) () h ⟨rfl, rfl, rfl, rfl, trivial⟩
            · replace h := And.right h hc60
              refine GC.seq ?_
              refine GC.region ?_
              refine GL.val trivial rfl (OV.move (v := .int .u8 (c28.toNat : Int)) rfl) ?_
              refine GL.val trivial rfl (OV.ibin (v := .bool (((c28.toNat : Int) : Int) == 13)) rfl rfl rfl) ?_
              refine GL.val trivial rfl (OV.assign (v := .bool (((c28.toNat : Int) : Int) == 13)) rfl) ?_
              refine GL.nil ?_
              refine GC.cond (b := ((c28.toNat : Int) : Int) == 13) rfl (fun hc62 => ?_) (fun hc62 => ?_)
              · replace h := And.left h hc62
                exact GC.jump (fun _ _ h => h) () h ⟨rfl, rfl, rfl, rfl, rfl, rfl, rfl, rfl, trivial⟩
              · replace h := And.right h hc62
                refine GC.seq ?_
                refine GC.region ?_
                refine GL.val trivial rfl (OV.move (v := .int .u8 (c28.toNat : Int)) rfl) ?_
                refine GL.val trivial rfl (OV.ibin (v := .bool (((c28.toNat : Int) : Int) == 10)) rfl rfl rfl) ?_
                refine GL.val trivial rfl (OV.assign (v := .bool (((c28.toNat : Int) : Int) == 10)) rfl) ?_
                refine GL.nil ?_
                refine GC.cond (b := ((c28.toNat : Int) : Int) == 10) rfl (fun hc63 => ?_) (fun hc63 => ?_)
                · replace h := And.left h hc63
                  refine GC.region ?_
                  refine GL.val trivial rfl (OV.move (v := .func (.func 20) (List.toArray []) (List.toArray [pv (some (b13, 0)), pv (some (b1, 0)), pv (some (b3, 0)), pv (some (b9, 0))])) rfl) ?_
                  refine GL.callV (fs := []) (vs := []) (cs := [pv (some (b13, 0)), pv (some (b1, 0)), pv (some (b3, 0)), pv (some (b9, 0))]) h trivial rfl ok_csv_Read_2 rfl rfl ?_
                  rintro _ H64 ⟨rfl, h⟩
                  exact GL.jump (fun _ _ h => h) () h ⟨rfl, rfl, rfl, rfl, rfl, rfl, rfl, rfl, trivial⟩
                · replace h := And.right h hc63
                  refine GC.seq ?_
                  refine GC.region ?_
                  refine GL.val trivial rfl (OV.move (v := .int .u8 (c28.toNat : Int)) rfl) ?_
                  refine GL.val trivial rfl (OV.ibin (v := .bool (((c28.toNat : Int) : Int) == 34)) rfl rfl rfl) ?_
                  refine GL.val trivial rfl (OV.move (v := .bool (((c28.toNat : Int) : Int) == 34)) rfl) ?_
                  obtain ⟨J66, h, hR67⟩ := h
                  refine GL.cut (α := Bool) 3 J66 (fun b65 => [(69, .bool b65), (0, sv p_text), (5, pv (some (b1, 0))), (7, pv (some (b5, 0))), (8, pv (some (b7, 0))), (9, pv (some (b9, 0))), (10, pv (some (b13, 0))), (11, .func (.func 20) (List.toArray []) (List.toArray [pv (some (b13, 0)), pv (some (b1, 0)), pv (some (b3, 0)), pv (some (b9, 0))])), (12, .int .i64 x20), (13, .int .u8 (c28.toNat : Int))]) ?_ ?_
                  · rcases Bool.eq_false_or_eq_true (((c28.toNat : Int) : Int) == 34) with hc68 | hc68
                    · skip
                      replace h := And.left h hc68
                      obtain ⟨x69, hr70, h⟩ := h
                      refine GL.val ⟨_, _, rfl, rfl, hc68⟩ rfl (OV.load (p := (b7, 0)) rfl rfl hr70) ?_
                      refine GL.val ⟨_, _, rfl, rfl, hc68⟩ rfl (OV.ibin (v := .bool ((x69 : Int) == 0)) rfl rfl rfl) ?_
                      refine GL.val trivial rfl (OV.pickT (b := ((c28.toNat : Int) : Int) == 34) (v := .bool ((x69 : Int) == 0)) rfl hc68 rfl) ?_
                      exact GL.jump (fun _ _ h => h) ((x69 : Int) == 0) h ⟨rfl, rfl, rfl, rfl, rfl, rfl, rfl, rfl, rfl, rfl, trivial⟩
                    · skip
                      replace h := And.right h hc68
                      refine GL.skip ⟨_, rfl, .inl ⟨_, rfl, hc68⟩⟩ rfl ?_
                      refine GL.skip ⟨_, rfl, .inl ⟨_, rfl, hc68⟩⟩ rfl ?_
                      refine GL.val trivial rfl (OV.pickF (b := ((c28.toNat : Int) : Int) == 34) (v := .bool false) rfl hc68 rfl) ?_
                      exact GL.jump (fun _ _ h => h) false h ⟨rfl, rfl, rfl, rfl, rfl, rfl, rfl, rfl, rfl, rfl, trivial⟩
                  intro b65 H71 h
                  replace h := hR67 b65 H71 h
                  refine GL.val trivial rfl (OV.assign (v := .bool b65) rfl) ?_
                  refine GL.nil ?_
                  refine GC.cond (b := b65) rfl (fun hc72 => ?_) (fun hc72 => ?_)
                  · replace h := And.left h hc72
                    refine GC.region ?_
                    refine GL.store (p := (b7, 0)) (v := .int .i64 2) h trivial rfl rfl rfl rfl ?_
                    intro H73 h
                    exact GL.jump (fun _ _ h => h) () h ⟨rfl, rfl, rfl, rfl, rfl, rfl, rfl, rfl, trivial⟩
                  · replace h := And.right h hc72
                    refine GC.seq ?_
                    refine GC.region ?_
                    refine GL.val trivial rfl (OV.move (v := .int .u8 (c28.toNat : Int)) rfl) ?_
                    refine GL.val trivial rfl (OV.ibin (v := .bool (((c28.toNat : Int) : Int) == 34)) rfl rfl rfl) ?_
                    refine GL.val trivial rfl (OV.move (v := .bool (((c28.toNat : Int) : Int) == 34)) rfl) ?_
                    obtain ⟨J75, h, hR76⟩ := h
                    refine GL.cut (α := Bool) 3 J75 (fun b74 => [(76, .bool b74), (0, sv p_text), (5, pv (some (b1, 0))), (7, pv (some (b5, 0))), (8, pv (some (b7, 0))), (9, pv (some (b9, 0))), (10, pv (some (b13, 0))), (11, .func (.func 20) (List.toArray []) (List.toArray [pv (some (b13, 0)), pv (some (b1, 0)), pv (some (b3, 0)), pv (some (b9, 0))])), (12, .int .i64 x20), (13, .int .u8 (c28.toNat : Int))]) ?_ ?_
                    · rcases Bool.eq_false_or_eq_true (((c28.toNat : Int) : Int) == 34) with hc77 | hc77
                      · skip
                        replace h := And.left h hc77
                        obtain ⟨x78, hr79, h⟩ := h
                        refine GL.val ⟨_, _, rfl, rfl, hc77⟩ rfl (OV.load (p := (b7, 0)) rfl rfl hr79) ?_
                        refine GL.val ⟨_, _, rfl, rfl, hc77⟩ rfl (OV.ibin (v := .bool ((x78 : Int) == 3)) rfl rfl rfl) ?_
                        refine GL.val trivial rfl (OV.pickT (b := ((c28.toNat : Int) : Int) == 34) (v := .bool ((x78 : Int) == 3)) rfl hc77 rfl) ?_
                        exact GL.jump (fun _ _ h => h) ((x78 : Int) == 3) h ⟨rfl, rfl, rfl, rfl, rfl, rfl, rfl, rfl, rfl, rfl, trivial⟩
                      · skip
                        replace h := And.right h hc77
                        refine GL.skip ⟨_, rfl, .inl ⟨_, rfl, hc77⟩⟩ rfl ?_
                        refine GL.skip ⟨_, rfl, .inl ⟨_, rfl, hc77⟩⟩ rfl ?_
                        refine GL.val trivial rfl (OV.pickF (b := ((c28.toNat : Int) : Int) == 34) (v := .bool false) rfl hc77 rfl) ?_
                        exact GL.jump (fun _ _ h => h) false h ⟨rfl, rfl, rfl, rfl, rfl, rfl, rfl, rfl, rfl, rfl, trivial⟩
                    intro b74 H80 h
                    replace h := hR76 b74 H80 h
                    refine GL.val trivial rfl (OV.assign (v := .bool b74) rfl) ?_
                    refine GL.nil ?_
                    refine GC.cond (b := b74) rfl (fun hc81 => ?_) (fun hc81 => ?_)
                    · replace h := And.left h hc81
                      refine GC.seq ?_
                      refine GC.region ?_
                      refine GL.val trivial rfl (OV.move (v := .int .u8 (c28.toNat : Int)) rfl) ?_
                      refine GL.call h trivial rfl ok_strings_Builder_WriteByte (vs := [pv (some (b5, 0)), .int .u8 (c28.toNat : Int)]) rfl ?_
                      rintro _ H83 ⟨r82, rfl, h⟩
                      refine GL.nil ?_
                      refine GC.region ?_
                      refine GL.store (p := (b7, 0)) (v := .int .i64 2) h trivial rfl rfl rfl rfl ?_
                      intro H84 h
                      exact GL.jump (fun _ _ h => h) () h ⟨rfl, rfl, rfl, rfl, rfl, rfl, rfl, rfl, trivial⟩
                    · replace h := And.right h hc81
                      refine GC.seq ?_
                      refine GC.region ?_
                      refine GL.val trivial rfl (OV.move (v := .int .u8 (c28.toNat : Int)) rfl) ?_
                      refine GL.val trivial rfl (OV.ibin (v := .bool (((c28.toNat : Int) : Int) == 34)) rfl rfl rfl) ?_
                      refine GL.val trivial rfl (OV.move (v := .bool (((c28.toNat : Int) : Int) == 34)) rfl) ?_
                      obtain ⟨J86, h, hR87⟩ := h
                      refine GL.cut (α := Bool) 3 J86 (fun b85 => [(85, .bool b85), (0, sv p_text), (5, pv (some (b1, 0))), (7, pv (some (b5, 0))), (8, pv (some (b7, 0))), (9, pv (some (b9, 0))), (10, pv (some (b13, 0))), (11, .func (.func 20) (List.toArray []) (List.toArray [pv (some (b13, 0)), pv (some (b1, 0)), pv (some (b3, 0)), pv (some (b9, 0))])), (12, .int .i64 x20), (13, .int .u8 (c28.toNat : Int))]) ?_ ?_
                      · rcases Bool.eq_false_or_eq_true (((c28.toNat : Int) : Int) == 34) with hc88 | hc88
                        · skip
                          replace h := And.left h hc88
                          refine GL.skip ⟨_, rfl, .inl ⟨_, rfl, hc88⟩⟩ rfl ?_
                          refine GL.skip ⟨_, rfl, .inl ⟨_, rfl, hc88⟩⟩ rfl ?_
                          refine GL.val trivial rfl (OV.pickT (b := ((c28.toNat : Int) : Int) == 34) (v := .bool true) rfl hc88 rfl) ?_
                          exact GL.jump (fun _ _ h => h) true h ⟨rfl, rfl, rfl, rfl, rfl, rfl, rfl, rfl, rfl, rfl, trivial⟩
                        · skip
                          replace h := And.right h hc88
                          obtain ⟨x89, hr90, h⟩ := h
                          refine GL.val ⟨_, _, rfl, rfl, hc88⟩ rfl (OV.load (p := (b7, 0)) rfl rfl hr90) ?_
                          refine GL.val ⟨_, _, rfl, rfl, hc88⟩ rfl (OV.ibin (v := .bool ((x89 : Int) == 3)) rfl rfl rfl) ?_
                          refine GL.val trivial rfl (OV.pickF (b := ((c28.toNat : Int) : Int) == 34) (v := .bool ((x89 : Int) == 3)) rfl hc88 rfl) ?_
                          exact GL.jump (fun _ _ h => h) ((x89 : Int) == 3) h ⟨rfl, rfl, rfl, rfl, rfl, rfl, rfl, rfl, rfl, rfl, trivial⟩
                      intro b85 H91 h
                      replace h := hR87 b85 H91 h
                      refine GL.val trivial rfl (OV.assign (v := .bool b85) rfl) ?_
                      refine GL.nil ?_
                      refine GC.cond (b := b85) rfl (fun hc92 => ?_) (fun hc92 => ?_)
                      · replace h := And.left h hc92
                        refine GC.seq ?_
                        refine GC.region ?_
                        refine GL.store (p := (b7, 0)) (v := .int .i64 2) h trivial rfl rfl rfl rfl ?_
                        intro H93 h
                        refine GL.nil ?_
                        exact GC.exit_jump (fun _ _ h => h) () h ⟨rfl, rfl, rfl, rfl, trivial⟩
                      · replace h := And.right h hc92
                        refine GC.seq ?_
                        refine GC.region ?_
                        refine GL.val trivial rfl (OV.move (v := .int .u8 (c28.toNat : Int)) rfl) ?_
                        refine GL.call h trivial rfl ok_strings_Builder_WriteByte (vs := [pv (some (b5, 0)), .int .u8 (c28.toNat : Int)]) rfl ?_
                        rintro _ H95 ⟨r94, rfl, h⟩
                        refine GL.nil ?_
                        refine GC.region ?_
                        refine GL.store (p := (b7, 0)) (v := .int .i64 1) h trivial rfl rfl rfl rfl ?_
                        intro H96 h
                        exact GL.jump (fun _ _ h => h) () h ⟨rfl, rfl, rfl, rfl, rfl, rfl, rfl, rfl, trivial⟩
      · intro x25 H26 h
        replace h := hR27 x25 H26 h
        refine GC.region ?_
        refine GL.val trivial rfl (OV.move (v := .int .i64 x20) rfl) ?_
        refine GL.val trivial rfl (OV.ibin (v := .int .i64 (w .i64 (x20 + 1))) rfl rfl rfl) ?_
        refine GL.val trivial rfl (OV.assign (v := .int .i64 (w .i64 (x20 + 1))) rfl) ?_
        exact GL.jump (fun _ _ h => h) (w .i64 (x20 + 1)) h ⟨rfl, rfl, rfl, rfl, rfl, rfl, rfl, rfl, trivial⟩
    · replace h := And.right h hc23
      exact GC.exit_jump (fun _ _ h => h) () h ⟨rfl, rfl, rfl, rfl, trivial⟩
  · intro x17 H18 h
    replace h := hR19 x17 H18 h
    refine GC.seq ?_
    refine GC.seq ?_
    refine GC.region ?_
    obtain ⟨x97, hr98, h⟩ := h
    refine GL.val trivial rfl (OV.load (p := (b7, 0)) rfl rfl hr98) ?_
    refine GL.val trivial rfl (OV.ibin (v := .bool ((x97 : Int) == 2)) rfl rfl rfl) ?_
    refine GL.nil ?_
    refine GC.cond (b := (x97 : Int) == 2) rfl (fun hc99 => ?_) (fun hc99 => ?_)
    · replace h := And.left h hc99
      refine GC.seq ?_
      refine GC.draw (by kernel_rfl) (by kernel_rfl) ?_
      obtain ⟨x100, hr101, h⟩ := h
      refine GQ.val trivial rfl (OV.load (p := (b1, 0)) rfl rfl hr101) ?_
      refine GQ.val trivial rfl (OV.lenSl (s := x100) rfl rfl) ?_
      refine GQ.val trivial rfl (OV.assign (v := slv Sl.nil) rfl) ?_
      refine GQ.val trivial rfl (OV.assign (v := .int .i64 (Sl.len x100 : Int)) rfl) ?_
      refine GQ.val trivial rfl (OV.assign (v := .int .i64 4) rfl) ?_
      refine GQ.nil ?_
      refine GL.nil ?_
      exact GC.ret (fun _ _ hf hs => post_tmp3 rfl rfl rfl rfl hf hs ⟨Sl.nil, (Sl.len x100 : Int), 4, rfl, h⟩)
    · replace h := And.right h hc99
      refine GC.skip ?_
      obtain ⟨J102, h, hR105⟩ := h
      refine GC.join (α := Unit) J102 (fun _ => [(5, pv (some (b1, 0)))]) ?_ ?_
      · skip
        refine GC.seq ?_
        refine GC.region ?_
        obtain ⟨x106, hr107, h⟩ := h
        refine GL.val trivial rfl (OV.load (p := (b9, 0)) rfl rfl hr107) ?_
        refine GL.nil ?_
        refine GC.cond (b := x106) rfl (fun hc108 => ?_) (fun hc108 => ?_)
        · replace h := And.left h hc108
          refine GC.region ?_
          refine GL.val trivial rfl (OV.move (v := .func (.func 20) (List.toArray []) (List.toArray [pv (some (b13, 0)), pv (some (b1, 0)), pv (some (b3, 0)), pv (some (b9, 0))])) rfl) ?_
          refine GL.callV (fs := []) (vs := []) (cs := [pv (some (b13, 0)), pv (some (b1, 0)), pv (some (b3, 0)), pv (some (b9, 0))]) h trivial rfl ok_csv_Read_2 rfl rfl ?_
          rintro _ H109 ⟨rfl, h⟩
          exact GL.jump (fun _ _ h => h) () h ⟨rfl, trivial⟩
        · replace h := And.right h hc108
          exact GC.jump (fun _ _ h => h) () h ⟨rfl, trivial⟩
      · intro x103 H104 h
        replace h := hR105 x103 H104 h
        refine GC.seq ?_
        refine GC.region ?_
        obtain ⟨x110, hr111, h⟩ := h
        refine GL.val trivial rfl (OV.load (p := (b1, 0)) rfl rfl hr111) ?_
        refine GL.val trivial rfl (OV.assign (v := slv x110) rfl) ?_
        refine GL.val trivial rfl (OV.assign (v := .int .i64 0) rfl) ?_
        refine GL.val trivial rfl (OV.assign (v := .int .i64 0) rfl) ?_
        refine GL.nil ?_
        exact GC.ret (fun _ _ hf hs => post_tmp3 rfl rfl rfl rfl hf hs ⟨x110, 0, 0, rfl, h⟩)

def sh_ref28_Read (C : Ctx) (p_s : Str) (K : Sl → Int → Int → Heap → Prop) (H : Heap) : Prop :=
  lp (α := Sl × Int) (Sl.nil, 0) H (fun x1 J2 H3 =>
 ift (decide ((x1.2 : Int) < (List.length p_s : Int)))
 (lp (α := Int × Sl) (x1.2, Sl.nil) H3 (fun x5 J6 H7 =>
 c_ref28_field C p_s x5.1 (fun r8 r9 r10 H11 =>
 ift (!r10)
 (K Sl.nil (Sl.len x1.1 : Int) 4 H11)
 (apd ([sv []]) 16 x5.2 ([sv r8]) 1 (fun r13 H14 =>
 jn (α := Bool) (fun b15 H22 =>
 ift b15
 (J6 ((w .i64 (r9 + 1)), r13) H22)
 (jn (α := Bool) (fun b24 H30 =>
 ift b24
 (K Sl.nil (Sl.len x1.1 : Int) 4 H30)
 (c_ref28_end C p_s r9 (fun r32 H33 =>
 apd ([slv Sl.nil]) 24 x1.1 ([slv r13]) 1 (fun r34 H35 =>
 J2 (r34, (w .i64 (r9 + r32))) H35) H33) H30))
 (fun J25 => ift (decide ((r9 : Int) < (List.length p_s : Int)))
 (c_ref28_end C p_s r9 (fun r28 H29 =>
 J25 ((r28 : Int) == 0) H29) H22)
 (J25 false H22))))
 (fun J16 => ift (decide ((r9 : Int) < (List.length p_s : Int)))
 (ixs p_s r9 fun c19 =>
 J16 (((c19.toNat : Int) : Int) == 44) H14)
 (J16 false H14))) H11)) H7))
 (K x1.1 0 0 H3))

theorem ad_ref28_Read (C : Ctx) (p_s : Str) (K : Sl → Int → Int → Heap → Prop) (H : Heap) (h : sh_ref28_Read C p_s K H) : c_ref28_Read C p_s K H := by
  refine Spec.enter Tryd.func11 rfl Tryd.ntmps11 rfl ?_
  refine GC.sub [(0, sv p_s)] ⟨rfl, trivial⟩ ?_
  refine GC.seq ?_
  refine GC.region ?_
  refine GL.val trivial rfl (OV.assign (v := slv Sl.nil) rfl) ?_
  refine GL.val trivial rfl (OV.assign (v := .int .i64 0) rfl) ?_
  refine GL.val trivial rfl (OV.assign (v := .int .i64 0) rfl) ?_
  refine GL.nil ?_
  refine GC.seq ?_
  refine GC.region ?_
  refine GL.val trivial rfl (OV.assign (v := slv Sl.nil) rfl) ?_
  refine GL.nil ?_
  refine GC.seq ?_
  refine GC.region ?_
  refine GL.val trivial rfl (OV.assign (v := .int .i64 0) rfl) ?_
  refine GL.nil ?_
  refine GC.seq ?_
  refine GC.block ?_
  refine GC.loop (α := Sl × Int) h (fun x1 => [(5, slv x1.1), (6, .int .i64 x1.2), (0, sv p_s)]) ⟨rfl, rfl, rfl, trivial⟩ ?_
  intro x1 H3 J2 h
  refine GC.seq ?_
  refine GC.seq ?_
  refine GC.region ?_
  refine GL.val trivial rfl (OV.move (v := .int .i64 x1.2) rfl) ?_
  refine GL.val trivial rfl (OV.move (v := sv p_s) rfl) ?_
  refine GL.val trivial rfl (OV.lenStr (s := p_s) rfl rfl) ?_
  refine GL.val trivial rfl (OV.ibin (v := .bool (decide ((x1.2 : Int) < (List.length p_s : Int)))) rfl rfl rfl) ?_
  refine GL.nil ?_
  refine GC.cond (b := decide ((x1.2 : Int) < (List.length p_s : Int))) rfl (fun hc4 => ?_) (fun hc4 => ?_)
  · replace h := And.left h hc4
    refine GC.skip ?_
    refine GC.block ?_
    refine GC.seq ?_
    refine GC.region ?_
    refine GL.val trivial rfl (OV.assign (v := slv Sl.nil) rfl) ?_
    refine GL.nil ?_
    refine GC.seq ?_
    refine GC.block ?_
    refine GC.loop (α := Int × Sl) h (fun x5 => [(6, .int .i64 x5.1), (7, slv x5.2), (0, sv p_s), (5, slv x1.1)]) ⟨rfl, rfl, rfl, rfl, trivial⟩ ?_
    intro x5 H7 J6 h
    refine GC.block ?_
    refine GC.seq ?_
    refine GC.region ?_
    refine GL.val trivial rfl (OV.move (v := sv p_s) rfl) ?_
    refine GL.val trivial rfl (OV.move (v := .int .i64 x5.1) rfl) ?_
    refine GL.call h trivial rfl ok_ref28_field (vs := [sv p_s, .int .i64 x5.1]) rfl ?_
    rintro _ H11 ⟨r8, r9, r10, rfl, h⟩
    refine GL.val trivial rfl (OV.move (v := .tuple #[sv r8, .int .i64 r9, .bool r10]) rfl) ?_
    refine GL.val trivial rfl (OV.extract (v := sv r8) rfl rfl) ?_
    refine GL.val trivial rfl (OV.extract (v := .int .i64 r9) rfl rfl) ?_
    refine GL.val trivial rfl (OV.extract (v := .bool r10) rfl rfl) ?_
    refine GL.val trivial rfl (OV.assign (v := sv r8) rfl) ?_
    refine GL.val trivial rfl (OV.assign (v := .int .i64 r9) rfl) ?_
    refine GL.val trivial rfl (OV.assign (v := .bool r10) rfl) ?_
    refine GL.nil ?_
    refine GC.seq ?_
    refine GC.seq ?_
    refine GC.region ?_
    refine GL.val trivial rfl (OV.move (v := .bool r10) rfl) ?_
    refine GL.val trivial rfl (OV.not rfl) ?_
    refine GL.nil ?_
    refine GC.cond (b := !r10) rfl (fun hc12 => ?_) (fun hc12 => ?_)
    · replace h := And.left h hc12
      refine GC.seq ?_
      refine GC.region ?_
      refine GL.val trivial rfl (OV.move (v := slv x1.1) rfl) ?_
      refine GL.val trivial rfl (OV.lenSl (s := x1.1) rfl rfl) ?_
      refine GL.val trivial rfl (OV.assign (v := slv Sl.nil) rfl) ?_
      refine GL.val trivial rfl (OV.assign (v := .int .i64 (Sl.len x1.1 : Int)) rfl) ?_
      refine GL.val trivial rfl (OV.assign (v := .int .i64 4) rfl) ?_
      refine GL.nil ?_
      exact GC.ret (fun _ _ hf hs => post_tmp3 rfl rfl rfl rfl hf hs ⟨Sl.nil, (Sl.len x1.1 : Int), 4, rfl, h⟩)
    · replace h := And.right h hc12
      refine GC.skip ?_
      refine GC.seq ?_
      refine GC.region ?_
      refine GL.val trivial rfl (OV.move (v := slv x5.2) rfl) ?_
      refine GL.val trivial rfl (OV.move (v := sv r8) rfl) ?_
      refine GL.appendLit (s := x5.2) (ys := [sv r8]) (zc := [sv []]) (bytes := 16) h trivial rfl (fun _ => trivial) rfl (fun _ => rfl) (fun _ => rfl) (vs := [(0, sv r8)]) rfl ⟨9, fun _ => by kernel_rfl⟩ ⟨⟨_, _, _, rfl, rfl, rfl, rfl, rfl, rfl⟩⟩ rfl rfl ?_
      intro _ r13 H14 h
      refine GL.val trivial rfl (OV.assign (v := slv r13) rfl) ?_
      refine GL.nil ?_
      refine GC.seq ?_
      refine GC.region ?_
      refine GL.val trivial rfl (OV.move (v := .int .i64 r9) rfl) ?_
      refine GL.val trivial rfl (OV.assign (v := .int .i64 r9) rfl) ?_
      refine GL.nil ?_
      refine GC.seq ?_
      refine GC.seq ?_
      refine GC.region ?_
      refine GL.val trivial rfl (OV.move (v := .int .i64 r9) rfl) ?_
      refine GL.val trivial rfl (OV.move (v := sv p_s) rfl) ?_
      refine GL.val trivial rfl (OV.lenStr (s := p_s) rfl rfl) ?_
      refine GL.val trivial rfl (OV.ibin (v := .bool (decide ((r9 : Int) < (List.length p_s : Int)))) rfl rfl rfl) ?_
      refine GL.val trivial rfl (OV.move (v := .bool (decide ((r9 : Int) < (List.length p_s : Int)))) rfl) ?_
      obtain ⟨J16, h, hR17⟩ := h
      refine GL.cut (α := Bool) 5 J16 (fun b15 => [(40, .bool b15), (0, sv p_s), (5, slv x1.1), (6, .int .i64 r9), (7, slv r13)]) ?_ ?_
      · rcases Bool.eq_false_or_eq_true (decide ((r9 : Int) < (List.length p_s : Int))) with hc18 | hc18
        · skip
          replace h := And.left h hc18
          refine GL.val ⟨_, _, rfl, rfl, hc18⟩ rfl (OV.move (v := sv p_s) rfl) ?_
          refine GL.val ⟨_, _, rfl, rfl, hc18⟩ rfl (OV.move (v := .int .i64 r9) rfl) ?_
          obtain ⟨c19, ha20, hb21, h⟩ := h
          refine GL.val ⟨_, _, rfl, rfl, hc18⟩ rfl (OV.indexStr (s := p_s) rfl rfl rfl ha20 hb21) ?_
          refine GL.val ⟨_, _, rfl, rfl, hc18⟩ rfl (OV.ibin (v := .bool (((c19.toNat : Int) : Int) == 44)) rfl rfl rfl) ?_
          refine GL.val trivial rfl (OV.pickT (b := decide ((r9 : Int) < (List.length p_s : Int))) (v := .bool (((c19.toNat : Int) : Int) == 44)) rfl hc18 rfl) ?_
          exact GL.jump (fun _ _ h => h) (((c19.toNat : Int) : Int) == 44) h ⟨rfl, rfl, rfl, rfl, rfl, trivial⟩
        · skip
          replace h := And.right h hc18
          refine GL.skip ⟨_, rfl, .inl ⟨_, rfl, hc18⟩⟩ rfl ?_
          refine GL.skip ⟨_, rfl, .inl ⟨_, rfl, hc18⟩⟩ rfl ?_
          refine GL.skip ⟨_, rfl, .inl ⟨_, rfl, hc18⟩⟩ rfl ?_
          refine GL.skip ⟨_, rfl, .inl ⟨_, rfl, hc18⟩⟩ rfl ?_
          refine GL.val trivial rfl (OV.pickF (b := decide ((r9 : Int) < (List.length p_s : Int))) (v := .bool false) rfl hc18 rfl) ?_
          exact GL.jump (fun _ _ h => h) false h ⟨rfl, rfl, rfl, rfl, rfl, trivial⟩
      intro b15 H22 h
      replace h := hR17 b15 H22 h
      refine GL.nil ?_
      refine GC.cond (b := b15) rfl (fun hc23 => ?_) (fun hc23 => ?_)
      · replace h := And.left h hc23
        refine GC.seq ?_
        refine GC.region ?_
        refine GL.val trivial rfl (OV.move (v := .int .i64 r9) rfl) ?_
        refine GL.val trivial rfl (OV.ibin (v := .int .i64 (w .i64 (r9 + 1))) rfl rfl rfl) ?_
        refine GL.val trivial rfl (OV.assign (v := .int .i64 (w .i64 (r9 + 1))) rfl) ?_
        refine GL.nil ?_
        exact GC.exit_jump (fun _ _ h => h) ((w .i64 (r9 + 1)), r13) h ⟨rfl, rfl, rfl, rfl, trivial⟩
      · replace h := And.right h hc23
        refine GC.skip ?_
        refine GC.seq ?_
        refine GC.seq ?_
        refine GC.region ?_
        refine GL.val trivial rfl (OV.move (v := .int .i64 r9) rfl) ?_
        refine GL.val trivial rfl (OV.move (v := sv p_s) rfl) ?_
        refine GL.val trivial rfl (OV.lenStr (s := p_s) rfl rfl) ?_
        refine GL.val trivial rfl (OV.ibin (v := .bool (decide ((r9 : Int) < (List.length p_s : Int)))) rfl rfl rfl) ?_
        refine GL.val trivial rfl (OV.move (v := .bool (decide ((r9 : Int) < (List.length p_s : Int)))) rfl) ?_
        obtain ⟨J25, h, hR26⟩ := h
        refine GL.cut (α := Bool) 5 J25 (fun b24 => [(52, .bool b24), (0, sv p_s), (5, slv x1.1), (6, .int .i64 r9), (7, slv r13)]) ?_ ?_
        · rcases Bool.eq_false_or_eq_true (decide ((r9 : Int) < (List.length p_s : Int))) with hc27 | hc27
          · skip
            replace h := And.left h hc27
            refine GL.val ⟨_, _, rfl, rfl, hc27⟩ rfl (OV.move (v := sv p_s) rfl) ?_
            refine GL.val ⟨_, _, rfl, rfl, hc27⟩ rfl (OV.move (v := .int .i64 r9) rfl) ?_
            refine GL.call h ⟨_, _, rfl, rfl, hc27⟩ rfl ok_ref28_end (vs := [sv p_s, .int .i64 r9]) rfl ?_
            rintro _ H29 ⟨r28, rfl, h⟩
            refine GL.val ⟨_, _, rfl, rfl, hc27⟩ rfl (OV.ibin (v := .bool ((r28 : Int) == 0)) rfl rfl rfl) ?_
            refine GL.val trivial rfl (OV.pickT (b := decide ((r9 : Int) < (List.length p_s : Int))) (v := .bool ((r28 : Int) == 0)) rfl hc27 rfl) ?_
            exact GL.jump (fun _ _ h => h) ((r28 : Int) == 0) h ⟨rfl, rfl, rfl, rfl, rfl, trivial⟩
          · skip
            replace h := And.right h hc27
            refine GL.skip ⟨_, rfl, .inl ⟨_, rfl, hc27⟩⟩ rfl ?_
            refine GL.skip ⟨_, rfl, .inl ⟨_, rfl, hc27⟩⟩ rfl ?_
            refine GL.skip ⟨_, rfl, .inl ⟨_, rfl, hc27⟩⟩ rfl ?_
            refine GL.skip ⟨_, rfl, .inl ⟨_, rfl, hc27⟩⟩ rfl ?_
            refine GL.val trivial rfl (OV.pickF (b := decide ((r9 : Int) < (List.length p_s : Int))) (v := .bool false) rfl hc27 rfl) ?_
            exact GL.jump (fun _ _ h => h) false h ⟨rfl, rfl, rfl, rfl, rfl, trivial⟩
        intro b24 H30 h
        replace h := hR26 b24 H30 h
        refine GL.nil ?_
        refine GC.cond (b := b24) rfl (fun hc31 => ?_) (fun hc31 => ?_)
        · replace h := And.left h hc31
          refine GC.seq ?_
          refine GC.region ?_
          refine GL.val trivial rfl (OV.move (v := slv x1.1) rfl) ?_
          refine GL.val trivial rfl (OV.lenSl (s := x1.1) rfl rfl) ?_
          refine GL.val trivial rfl (OV.assign (v := slv Sl.nil) rfl) ?_
          refine GL.val trivial rfl (OV.assign (v := .int .i64 (Sl.len x1.1 : Int)) rfl) ?_
          refine GL.val trivial rfl (OV.assign (v := .int .i64 4) rfl) ?_
          refine GL.nil ?_
          exact GC.ret (fun _ _ hf hs => post_tmp3 rfl rfl rfl rfl hf hs ⟨Sl.nil, (Sl.len x1.1 : Int), 4, rfl, h⟩)
        · replace h := And.right h hc31
          refine GC.skip ?_
          refine GC.exit_to (fun _ _ h => h) ?_
          refine GC.seq ?_
          refine GC.region ?_
          refine GL.val trivial rfl (OV.move (v := .int .i64 r9) rfl) ?_
          refine GL.val trivial rfl (OV.move (v := sv p_s) rfl) ?_
          refine GL.val trivial rfl (OV.move (v := .int .i64 r9) rfl) ?_
          refine GL.call h trivial rfl ok_ref28_end (vs := [sv p_s, .int .i64 r9]) rfl ?_
          rintro _ H33 ⟨r32, rfl, h⟩
          refine GL.val trivial rfl (OV.ibin (v := .int .i64 (w .i64 (r9 + r32))) rfl rfl rfl) ?_
          refine GL.val trivial rfl (OV.assign (v := .int .i64 (w .i64 (r9 + r32))) rfl) ?_
          refine GL.nil ?_
          refine GC.region ?_
          refine GL.val trivial rfl (OV.move (v := slv x1.1) rfl) ?_
          refine GL.val trivial rfl (OV.move (v := slv r13) rfl) ?_
          refine GL.appendLit (s := x1.1) (ys := [slv r13]) (zc := [slv Sl.nil]) (bytes := 24) h trivial rfl (fun _ => trivial) rfl (fun _ => rfl) (fun _ => rfl) (vs := [(0, slv r13)]) rfl ⟨28, fun _ => by kernel_rfl⟩ ⟨⟨_, _, _, rfl, rfl, rfl, rfl, rfl, rfl⟩⟩ rfl rfl ?_
          intro _ r34 H35 h
          refine GL.val trivial rfl (OV.assign (v := slv r34) rfl) ?_
          exact GL.jump (fun _ _ h => h) (r34, (w .i64 (r9 + r32))) h ⟨rfl, rfl, rfl, trivial⟩
  · replace h := And.right h hc4
    refine GC.exit_to (fun _ _ h => h) ?_
    refine GC.seq ?_
    refine GC.region ?_
    refine GL.val trivial rfl (OV.move (v := slv x1.1) rfl) ?_
    refine GL.val trivial rfl (OV.assign (v := slv x1.1) rfl) ?_
    refine GL.val trivial rfl (OV.assign (v := .int .i64 0) rfl) ?_
    refine GL.val trivial rfl (OV.assign (v := .int .i64 0) rfl) ?_
    refine GL.nil ?_
    exact GC.ret (fun _ _ hf hs => post_tmp3 rfl rfl rfl rfl hf hs ⟨x1.1, 0, 0, rfl, h⟩)

def sh_ref28_Same (C : Ctx) (p_a : Sl) (p_b : Sl) (K : Bool → Heap → Prop) (H : Heap) : Prop :=
  ift (((Sl.len p_a : Int) : Int) != (Sl.len p_b : Int))
 (K false H)
 (lp (α := Int) 0 H (fun x2 J3 H4 =>
 ift (decide ((x2 : Int) < (Sl.len p_a : Int)))
 (ixa p_a x2 fun p6 =>
 ldL H4 (p6.1, p6.2 + (x2 : Int).toNat * 1) fun x11 =>
 ixa p_b x2 fun p13 =>
 ldL H4 (p13.1, p13.2 + (x2 : Int).toNat * 1) fun x18 =>
 ift (((Sl.len x11 : Int) : Int) != (Sl.len x18 : Int))
 (K false H4)
 (lp (α := Int) 0 H4 (fun x21 J22 H23 =>
 ixa p_a x2 fun p24 =>
 ldL H23 (p24.1, p24.2 + (x2 : Int).toNat * 1) fun x29 =>
 ift (decide ((x21 : Int) < (Sl.len x29 : Int)))
 (ixa p_a x2 fun p32 =>
 ldL H23 (p32.1, p32.2 + (x2 : Int).toNat * 1) fun x37 =>
 ixa x37 x21 fun p39 =>
 ldS H23 (p39.1, p39.2 + (x21 : Int).toNat * 1) fun x44 =>
 ixa p_b x2 fun p46 =>
 ldL H23 (p46.1, p46.2 + (x2 : Int).toNat * 1) fun x51 =>
 ixa x51 x21 fun p53 =>
 ldS H23 (p53.1, p53.2 + (x21 : Int).toNat * 1) fun x58 =>
 ift (!(x44 == x58))
 (K false H23)
 (J22 (w .i64 (x21 + 1)) H23))
 (J3 (w .i64 (x2 + 1)) H23))))
 (K true H4)))

theorem ad_ref28_Same (C : Ctx) (p_a : Sl) (p_b : Sl) (K : Bool → Heap → Prop) (H : Heap) (h : sh_ref28_Same C p_a p_b K H) : c_ref28_Same C p_a p_b K H := by
  refine Spec.enter Tryd.func12 rfl Tryd.ntmps12 rfl ?_
  refine GC.sub [(0, slv p_a), (1, slv p_b)] ⟨rfl, rfl, trivial⟩ ?_
  refine GC.seq ?_
  refine GC.region ?_
  refine GL.val trivial rfl (OV.assign (v := .bool false) rfl) ?_
  refine GL.nil ?_
  refine GC.seq ?_
  refine GC.seq ?_
  refine GC.region ?_
  refine GL.val trivial rfl (OV.move (v := slv p_a) rfl) ?_
  refine GL.val trivial rfl (OV.lenSl (s := p_a) rfl rfl) ?_
  refine GL.val trivial rfl (OV.move (v := slv p_b) rfl) ?_
  refine GL.val trivial rfl (OV.lenSl (s := p_b) rfl rfl) ?_
  refine GL.val trivial rfl (OV.ibin (v := .bool (((Sl.len p_a : Int) : Int) != (Sl.len p_b : Int))) rfl rfl rfl) ?_
  refine GL.nil ?_
  refine GC.cond (b := ((Sl.len p_a : Int) : Int) != (Sl.len p_b : Int)) rfl (fun hc1 => ?_) (fun hc1 => ?_)
  · replace h := And.left h hc1
    refine GC.seq ?_
    refine GC.region ?_
    refine GL.val trivial rfl (OV.assign (v := .bool false) rfl) ?_
    refine GL.nil ?_
    exact GC.ret (fun _ _ hf hs => post_tmp1 rfl rfl hf hs ⟨false, rfl, h⟩)
  · replace h := And.right h hc1
    refine GC.skip ?_
    refine GC.seq ?_
    refine GC.seq ?_
    refine GC.region ?_
    refine GL.val trivial rfl (OV.assign (v := .int .i64 0) rfl) ?_
    refine GL.nil ?_
    refine GC.block ?_
    refine GC.loop (α := Int) h (fun x2 => [(5, .int .i64 x2), (0, slv p_a), (1, slv p_b)]) ⟨rfl, rfl, rfl, trivial⟩ ?_
    intro x2 H4 J3 h
    refine GC.seq ?_
    refine GC.seq ?_
    refine GC.region ?_
    refine GL.val trivial rfl (OV.move (v := .int .i64 x2) rfl) ?_
    refine GL.val trivial rfl (OV.move (v := slv p_a) rfl) ?_
    refine GL.val trivial rfl (OV.lenSl (s := p_a) rfl rfl) ?_
    refine GL.val trivial rfl (OV.ibin (v := .bool (decide ((x2 : Int) < (Sl.len p_a : Int)))) rfl rfl rfl) ?_
    refine GL.nil ?_
    refine GC.cond (b := decide ((x2 : Int) < (Sl.len p_a : Int))) rfl (fun hc5 => ?_) (fun hc5 => ?_)
    · replace h := And.left h hc5
      refine GC.skip ?_
      refine GC.seq ?_
      refine GC.block ?_
      refine GC.seq ?_
      refine GC.seq ?_
      refine GC.draw (by kernel_rfl) (by kernel_rfl) ?_
      refine GQ.val trivial rfl (OV.move (v := slv p_a) rfl) ?_
      refine GQ.val trivial rfl (OV.move (v := .int .i64 x2) rfl) ?_
      obtain ⟨p6, ha7, hb8, hc9, hd10, h⟩ := h
      refine GQ.val trivial rfl (OV.indexAddr (s := p_a) rfl rfl rfl rfl ha7 hb8 hc9 hd10) ?_
      obtain ⟨x11, hr12, h⟩ := h
      refine GQ.val trivial rfl (OV.load (p := (p6.1, p6.2 + (x2 : Int).toNat * 1)) rfl rfl hr12) ?_
      refine GQ.val trivial rfl (OV.lenSl (s := x11) rfl rfl) ?_
      refine GQ.val trivial rfl (OV.move (v := slv p_b) rfl) ?_
      refine GQ.val trivial rfl (OV.move (v := .int .i64 x2) rfl) ?_
      obtain ⟨p13, ha14, hb15, hc16, hd17, h⟩ := h
      refine GQ.val trivial rfl (OV.indexAddr (s := p_b) rfl rfl rfl rfl ha14 hb15 hc16 hd17) ?_
      obtain ⟨x18, hr19, h⟩ := h
      refine GQ.val trivial rfl (OV.load (p := (p13.1, p13.2 + (x2 : Int).toNat * 1)) rfl rfl hr19) ?_
      refine GQ.val trivial rfl (OV.lenSl (s := x18) rfl rfl) ?_
      refine GQ.val trivial rfl (OV.ibin (v := .bool (((Sl.len x11 : Int) : Int) != (Sl.len x18 : Int))) rfl rfl rfl) ?_
      refine GQ.nil ?_
      refine GL.nil ?_
      refine GC.cond (b := ((Sl.len x11 : Int) : Int) != (Sl.len x18 : Int)) rfl (fun hc20 => ?_) (fun hc20 => ?_)
      · replace h := And.left h hc20
        refine GC.seq ?_
        refine GC.region ?_
        refine GL.val trivial rfl (OV.assign (v := .bool false) rfl) ?_
        refine GL.nil ?_
        exact GC.ret (fun _ _ hf hs => post_tmp1 rfl rfl hf hs ⟨false, rfl, h⟩)
      · replace h := And.right h hc20
        refine GC.skip ?_
        refine GC.seq ?_
        refine GC.region ?_
        refine GL.val trivial rfl (OV.assign (v := .int .i64 0) rfl) ?_
        refine GL.nil ?_
        refine GC.block ?_
        refine GC.loop (α := Int) h (fun x21 => [(6, .int .i64 x21), (0, slv p_a), (1, slv p_b), (5, .int .i64 x2)]) ⟨rfl, rfl, rfl, rfl, trivial⟩ ?_
        intro x21 H23 J22 h
        refine GC.seq ?_
        refine GC.seq ?_
        refine GC.region ?_
        refine GL.val trivial rfl (OV.move (v := .int .i64 x21) rfl) ?_
        refine GL.val trivial rfl (OV.move (v := slv p_a) rfl) ?_
        refine GL.val trivial rfl (OV.move (v := .int .i64 x2) rfl) ?_
        obtain ⟨p24, ha25, hb26, hc27, hd28, h⟩ := h
        refine GL.val trivial rfl (OV.indexAddr (s := p_a) rfl rfl rfl rfl ha25 hb26 hc27 hd28) ?_
        obtain ⟨x29, hr30, h⟩ := h
        refine GL.val trivial rfl (OV.load (p := (p24.1, p24.2 + (x2 : Int).toNat * 1)) rfl rfl hr30) ?_
        refine GL.val trivial rfl (OV.lenSl (s := x29) rfl rfl) ?_
        refine GL.val trivial rfl (OV.ibin (v := .bool (decide ((x21 : Int) < (Sl.len x29 : Int)))) rfl rfl rfl) ?_
        refine GL.nil ?_
        refine GC.cond (b := decide ((x21 : Int) < (Sl.len x29 : Int))) rfl (fun hc31 => ?_) (fun hc31 => ?_)
        · replace h := And.left h hc31
          refine GC.skip ?_
          refine GC.seq ?_
          refine GC.block ?_
          refine GC.seq ?_
          refine GC.draw (by kernel_rfl) (by kernel_rfl) ?_
          refine GQ.val trivial rfl (OV.move (v := slv p_a) rfl) ?_
          refine GQ.val trivial rfl (OV.move (v := .int .i64 x2) rfl) ?_
          obtain ⟨p32, ha33, hb34, hc35, hd36, h⟩ := h
          refine GQ.val trivial rfl (OV.indexAddr (s := p_a) rfl rfl rfl rfl ha33 hb34 hc35 hd36) ?_
          obtain ⟨x37, hr38, h⟩ := h
          refine GQ.val trivial rfl (OV.load (p := (p32.1, p32.2 + (x2 : Int).toNat * 1)) rfl rfl hr38) ?_
          refine GQ.val trivial rfl (OV.move (v := .int .i64 x21) rfl) ?_
          obtain ⟨p39, ha40, hb41, hc42, hd43, h⟩ := h
          refine GQ.val trivial rfl (OV.indexAddr (s := x37) rfl rfl rfl rfl ha40 hb41 hc42 hd43) ?_
          obtain ⟨x44, hr45, h⟩ := h
          refine GQ.val trivial rfl (OV.load (p := (p39.1, p39.2 + (x21 : Int).toNat * 1)) rfl rfl hr45) ?_
          refine GQ.val trivial rfl (OV.move (v := slv p_b) rfl) ?_
          refine GQ.val trivial rfl (OV.move (v := .int .i64 x2) rfl) ?_
          obtain ⟨p46, ha47, hb48, hc49, hd50, h⟩ := h
          refine GQ.val trivial rfl (OV.indexAddr (s := p_b) rfl rfl rfl rfl ha47 hb48 hc49 hd50) ?_
          obtain ⟨x51, hr52, h⟩ := h
          refine GQ.val trivial rfl (OV.load (p := (p46.1, p46.2 + (x2 : Int).toNat * 1)) rfl rfl hr52) ?_
          refine GQ.val trivial rfl (OV.move (v := .int .i64 x21) rfl) ?_
          obtain ⟨p53, ha54, hb55, hc56, hd57, h⟩ := h
          refine GQ.val trivial rfl (OV.indexAddr (s := x51) rfl rfl rfl rfl ha54 hb55 hc56 hd57) ?_
          obtain ⟨x58, hr59, h⟩ := h
          refine GQ.val trivial rfl (OV.load (p := (p53.1, p53.2 + (x21 : Int).toNat * 1)) rfl rfl hr59) ?_
          refine GQ.val trivial rfl (OV.sbin (a := x44) (b := x58) (v := .bool (!(x44 == x58))) rfl rfl rfl) ?_
          refine GQ.nil ?_
          refine GL.nil ?_
          refine GC.cond (b := !(x44 == x58)) rfl (fun hc60 => ?_) (fun hc60 => ?_)
          · replace h := And.left h hc60
            refine GC.seq ?_
            refine GC.region ?_
            refine GL.val trivial rfl (OV.assign (v := .bool false) rfl) ?_
            refine GL.nil ?_
            exact GC.ret (fun _ _ hf hs => post_tmp1 rfl rfl hf hs ⟨false, rfl, h⟩)
          · replace h := And.right h hc60
            refine GC.skip_to (fun _ _ h => h) ?_
            refine GC.region ?_
            refine GL.val trivial rfl (OV.move (v := .int .i64 x21) rfl) ?_
            refine GL.val trivial rfl (OV.ibin (v := .int .i64 (w .i64 (x21 + 1))) rfl rfl rfl) ?_
            refine GL.val trivial rfl (OV.assign (v := .int .i64 (w .i64 (x21 + 1))) rfl) ?_
            exact GL.jump (fun _ _ h => h) (w .i64 (x21 + 1)) h ⟨rfl, rfl, rfl, rfl, trivial⟩
        · replace h := And.right h hc31
          refine GC.exit_to (fun _ _ h => h) ?_
          refine GC.region ?_
          refine GL.val trivial rfl (OV.move (v := .int .i64 x2) rfl) ?_
          refine GL.val trivial rfl (OV.ibin (v := .int .i64 (w .i64 (x2 + 1))) rfl rfl rfl) ?_
          refine GL.val trivial rfl (OV.assign (v := .int .i64 (w .i64 (x2 + 1))) rfl) ?_
          exact GL.jump (fun _ _ h => h) (w .i64 (x2 + 1)) h ⟨rfl, rfl, rfl, trivial⟩
    · replace h := And.right h hc5
      refine GC.exit_to (fun _ _ h => h) ?_
      refine GC.seq ?_
      refine GC.region ?_
      refine GL.val trivial rfl (OV.assign (v := .bool true) rfl) ?_
      refine GL.nil ?_
      exact GC.ret (fun _ _ hf hs => post_tmp1 rfl rfl hf hs ⟨true, rfl, h⟩)

def sh_law28_large (C : Ctx) (p_l : Sl) (K : Bool → Heap → Prop) (H : Heap) : Prop :=
  lp (α := Int × Int) ((Sl.len p_l : Int), 0) H (fun x1 J2 H3 =>
 ift ((decide ((x1.2 : Int) < (Sl.len p_l : Int))) && (decide ((x1.1 : Int) < 3000)))
 (ixa p_l x1.2 fun p6 =>
 ldL H3 (p6.1, p6.2 + (x1.2 : Int).toNat * 1) fun x11 =>
 lp (α := Int × Int) ((w .i64 (x1.1 + (Sl.len x11 : Int))), 0) H3 (fun x13 J14 H15 =>
 ixa p_l x1.2 fun p16 =>
 ldL H15 (p16.1, p16.2 + (x1.2 : Int).toNat * 1) fun x21 =>
 ift ((decide ((x13.2 : Int) < (Sl.len x21 : Int))) && (decide ((x13.1 : Int) < 3000)))
 (ixa p_l x1.2 fun p25 =>
 ldL H15 (p25.1, p25.2 + (x1.2 : Int).toNat * 1) fun x30 =>
 ixa x30 x13.2 fun p32 =>
 ldS H15 (p32.1, p32.2 + (x13.2 : Int).toNat * 1) fun x37 =>
 J14 ((w .i64 (x13.1 + (List.length x37 : Int))), (w .i64 (x13.2 + 1))) H15)
 (J2 (x13.1, (w .i64 (x1.2 + 1))) H15)))
 (K (decide ((x1.1 : Int) ≥ 3000)) H3))

theorem ad_law28_large (C : Ctx) (p_l : Sl) (K : Bool → Heap → Prop) (H : Heap) (h : sh_law28_large C p_l K H) : c_law28_large C p_l K H := by
  refine Spec.enter Tryd.func13 rfl Tryd.ntmps13 rfl ?_
  refine GC.sub [(0, slv p_l)] ⟨rfl, trivial⟩ ?_
  refine GC.seq ?_
  refine GC.region ?_
  refine GL.val trivial rfl (OV.assign (v := .bool false) rfl) ?_
  refine GL.nil ?_
  refine GC.seq ?_
  refine GC.region ?_
  refine GL.val trivial rfl (OV.move (v := slv p_l) rfl) ?_
  refine GL.val trivial rfl (OV.lenSl (s := p_l) rfl rfl) ?_
  refine GL.val trivial rfl (OV.assign (v := .int .i64 (Sl.len p_l : Int)) rfl) ?_
  refine GL.nil ?_
  refine GC.seq ?_
  refine GC.seq ?_
  refine GC.region ?_
  refine GL.val trivial rfl (OV.assign (v := .int .i64 0) rfl) ?_
  refine GL.nil ?_
  refine GC.block ?_
  refine GC.loop (α := Int × Int) h (fun x1 => [(3, .int .i64 x1.1), (4, .int .i64 x1.2), (0, slv p_l)]) ⟨rfl, rfl, rfl, trivial⟩ ?_
  intro x1 H3 J2 h
  refine GC.seq ?_
  refine GC.seq ?_
  refine GC.region ?_
  refine GL.val trivial rfl (OV.move (v := .int .i64 x1.2) rfl) ?_
  refine GL.val trivial rfl (OV.move (v := slv p_l) rfl) ?_
  refine GL.val trivial rfl (OV.lenSl (s := p_l) rfl rfl) ?_
  refine GL.val trivial rfl (OV.ibin (v := .bool (decide ((x1.2 : Int) < (Sl.len p_l : Int)))) rfl rfl rfl) ?_
  refine GL.val trivial rfl (OV.move (v := .bool (decide ((x1.2 : Int) < (Sl.len p_l : Int)))) rfl) ?_
  refine GL.cut0 3 [(15, .bool ((decide ((x1.2 : Int) < (Sl.len p_l : Int))) && (decide ((x1.1 : Int) < 3000)))), (0, slv p_l), (3, .int .i64 x1.1), (4, .int .i64 x1.2)] ?_ ?_
  · rcases Bool.eq_false_or_eq_true (decide ((x1.2 : Int) < (Sl.len p_l : Int))) with hc4 | hc4
    · skip
      refine GL.val ⟨_, _, rfl, rfl, hc4⟩ rfl (OV.move (v := .int .i64 x1.1) rfl) ?_
      refine GL.val ⟨_, _, rfl, rfl, hc4⟩ rfl (OV.ibin (v := .bool (decide ((x1.1 : Int) < 3000))) rfl rfl rfl) ?_
      refine GL.val trivial rfl (OV.pickT (b := decide ((x1.2 : Int) < (Sl.len p_l : Int))) (v := .bool (decide ((x1.1 : Int) < 3000))) rfl hc4 rfl) ?_
      exact GL.jump0 (fun _ _ h => h) () rfl ⟨(by rw [hc4]; rfl), rfl, rfl, rfl, trivial⟩
    · skip
      refine GL.skip ⟨_, rfl, .inl ⟨_, rfl, hc4⟩⟩ rfl ?_
      refine GL.skip ⟨_, rfl, .inl ⟨_, rfl, hc4⟩⟩ rfl ?_
      refine GL.val trivial rfl (OV.pickF (b := decide ((x1.2 : Int) < (Sl.len p_l : Int))) (v := .bool false) rfl hc4 rfl) ?_
      exact GL.jump0 (fun _ _ h => h) () rfl ⟨(by rw [hc4]; rfl), rfl, rfl, rfl, trivial⟩
  refine GL.nil ?_
  refine GC.cond (b := (decide ((x1.2 : Int) < (Sl.len p_l : Int))) && (decide ((x1.1 : Int) < 3000))) rfl (fun hc5 => ?_) (fun hc5 => ?_)
  · replace h := And.left h hc5
    refine GC.skip ?_
    refine GC.seq ?_
    refine GC.block ?_
    refine GC.seq ?_
    refine GC.region ?_
    refine GL.val trivial rfl (OV.move (v := .int .i64 x1.1) rfl) ?_
    refine GL.val trivial rfl (OV.move (v := slv p_l) rfl) ?_
    refine GL.val trivial rfl (OV.move (v := .int .i64 x1.2) rfl) ?_
    obtain ⟨p6, ha7, hb8, hc9, hd10, h⟩ := h
    refine GL.val trivial rfl (OV.indexAddr (s := p_l) rfl rfl rfl rfl ha7 hb8 hc9 hd10) ?_
    obtain ⟨x11, hr12, h⟩ := h
    refine GL.val trivial rfl (OV.load (p := (p6.1, p6.2 + (x1.2 : Int).toNat * 1)) rfl rfl hr12) ?_
    refine GL.val trivial rfl (OV.lenSl (s := x11) rfl rfl) ?_
    refine GL.val trivial rfl (OV.ibin (v := .int .i64 (w .i64 (x1.1 + (Sl.len x11 : Int)))) rfl rfl rfl) ?_
    refine GL.val trivial rfl (OV.assign (v := .int .i64 (w .i64 (x1.1 + (Sl.len x11 : Int)))) rfl) ?_
    refine GL.nil ?_
    refine GC.seq ?_
    refine GC.region ?_
    refine GL.val trivial rfl (OV.assign (v := .int .i64 0) rfl) ?_
    refine GL.nil ?_
    refine GC.block ?_
    refine GC.loop (α := Int × Int) h (fun x13 => [(3, .int .i64 x13.1), (5, .int .i64 x13.2), (0, slv p_l), (4, .int .i64 x1.2)]) ⟨rfl, rfl, rfl, rfl, trivial⟩ ?_
    intro x13 H15 J14 h
    refine GC.seq ?_
    refine GC.seq ?_
    refine GC.region ?_
    refine GL.val trivial rfl (OV.move (v := .int .i64 x13.2) rfl) ?_
    refine GL.val trivial rfl (OV.move (v := slv p_l) rfl) ?_
    refine GL.val trivial rfl (OV.move (v := .int .i64 x1.2) rfl) ?_
    obtain ⟨p16, ha17, hb18, hc19, hd20, h⟩ := h
    refine GL.val trivial rfl (OV.indexAddr (s := p_l) rfl rfl rfl rfl ha17 hb18 hc19 hd20) ?_
    obtain ⟨x21, hr22, h⟩ := h
    refine GL.val trivial rfl (OV.load (p := (p16.1, p16.2 + (x1.2 : Int).toNat * 1)) rfl rfl hr22) ?_
    refine GL.val trivial rfl (OV.lenSl (s := x21) rfl rfl) ?_
    refine GL.val trivial rfl (OV.ibin (v := .bool (decide ((x13.2 : Int) < (Sl.len x21 : Int)))) rfl rfl rfl) ?_
    refine GL.val trivial rfl (OV.move (v := .bool (decide ((x13.2 : Int) < (Sl.len x21 : Int)))) rfl) ?_
    refine GL.cut0 3 [(35, .bool ((decide ((x13.2 : Int) < (Sl.len x21 : Int))) && (decide ((x13.1 : Int) < 3000)))), (0, slv p_l), (3, .int .i64 x13.1), (4, .int .i64 x1.2), (5, .int .i64 x13.2)] ?_ ?_
    · rcases Bool.eq_false_or_eq_true (decide ((x13.2 : Int) < (Sl.len x21 : Int))) with hc23 | hc23
      · skip
        refine GL.val ⟨_, _, rfl, rfl, hc23⟩ rfl (OV.move (v := .int .i64 x13.1) rfl) ?_
        refine GL.val ⟨_, _, rfl, rfl, hc23⟩ rfl (OV.ibin (v := .bool (decide ((x13.1 : Int) < 3000))) rfl rfl rfl) ?_
        refine GL.val trivial rfl (OV.pickT (b := decide ((x13.2 : Int) < (Sl.len x21 : Int))) (v := .bool (decide ((x13.1 : Int) < 3000))) rfl hc23 rfl) ?_
        exact GL.jump0 (fun _ _ h => h) () rfl ⟨(by rw [hc23]; rfl), rfl, rfl, rfl, rfl, trivial⟩
      · skip
        refine GL.skip ⟨_, rfl, .inl ⟨_, rfl, hc23⟩⟩ rfl ?_
        refine GL.skip ⟨_, rfl, .inl ⟨_, rfl, hc23⟩⟩ rfl ?_
        refine GL.val trivial rfl (OV.pickF (b := decide ((x13.2 : Int) < (Sl.len x21 : Int))) (v := .bool false) rfl hc23 rfl) ?_
        exact GL.jump0 (fun _ _ h => h) () rfl ⟨(by rw [hc23]; rfl), rfl, rfl, rfl, rfl, trivial⟩
    refine GL.nil ?_
    refine GC.cond (b := (decide ((x13.2 : Int) < (Sl.len x21 : Int))) && (decide ((x13.1 : Int) < 3000))) rfl (fun hc24 => ?_) (fun hc24 => ?_)
    · replace h := And.left h hc24
      refine GC.skip ?_
      refine GC.seq ?_
      refine GC.block ?_
      refine GC.region ?_
      refine GL.val trivial rfl (OV.move (v := .int .i64 x13.1) rfl) ?_
      refine GL.val trivial rfl (OV.move (v := slv p_l) rfl) ?_
      refine GL.val trivial rfl (OV.move (v := .int .i64 x1.2) rfl) ?_
      obtain ⟨p25, ha26, hb27, hc28, hd29, h⟩ := h
      refine GL.val trivial rfl (OV.indexAddr (s := p_l) rfl rfl rfl rfl ha26 hb27 hc28 hd29) ?_
      obtain ⟨x30, hr31, h⟩ := h
      refine GL.val trivial rfl (OV.load (p := (p25.1, p25.2 + (x1.2 : Int).toNat * 1)) rfl rfl hr31) ?_
      refine GL.val trivial rfl (OV.move (v := .int .i64 x13.2) rfl) ?_
      obtain ⟨p32, ha33, hb34, hc35, hd36, h⟩ := h
      refine GL.val trivial rfl (OV.indexAddr (s := x30) rfl rfl rfl rfl ha33 hb34 hc35 hd36) ?_
      obtain ⟨x37, hr38, h⟩ := h
      refine GL.val trivial rfl (OV.load (p := (p32.1, p32.2 + (x13.2 : Int).toNat * 1)) rfl rfl hr38) ?_
      refine GL.val trivial rfl (OV.lenStr (s := x37) rfl rfl) ?_
      refine GL.val trivial rfl (OV.ibin (v := .int .i64 (w .i64 (x13.1 + (List.length x37 : Int)))) rfl rfl rfl) ?_
      refine GL.val trivial rfl (OV.assign (v := .int .i64 (w .i64 (x13.1 + (List.length x37 : Int)))) rfl) ?_
      refine GL.nil_to (fun _ _ h => h) ?_
      refine GC.region ?_
      refine GL.val trivial rfl (OV.move (v := .int .i64 x13.2) rfl) ?_
      refine GL.val trivial rfl (OV.ibin (v := .int .i64 (w .i64 (x13.2 + 1))) rfl rfl rfl) ?_
      refine GL.val trivial rfl (OV.assign (v := .int .i64 (w .i64 (x13.2 + 1))) rfl) ?_
      exact GL.jump (fun _ _ h => h) ((w .i64 (x13.1 + (List.length x37 : Int))), (w .i64 (x13.2 + 1))) h ⟨rfl, rfl, rfl, rfl, trivial⟩
    · replace h := And.right h hc24
      refine GC.exit_to (fun _ _ h => h) ?_
      refine GC.region ?_
      refine GL.val trivial rfl (OV.move (v := .int .i64 x1.2) rfl) ?_
      refine GL.val trivial rfl (OV.ibin (v := .int .i64 (w .i64 (x1.2 + 1))) rfl rfl rfl) ?_
      refine GL.val trivial rfl (OV.assign (v := .int .i64 (w .i64 (x1.2 + 1))) rfl) ?_
      exact GL.jump (fun _ _ h => h) (x13.1, (w .i64 (x1.2 + 1))) h ⟨rfl, rfl, rfl, trivial⟩
  · replace h := And.right h hc5
    refine GC.exit_to (fun _ _ h => h) ?_
    refine GC.seq ?_
    refine GC.region ?_
    refine GL.val trivial rfl (OV.move (v := .int .i64 x1.1) rfl) ?_
    refine GL.val trivial rfl (OV.ibin (v := .bool (decide ((x1.1 : Int) ≥ 3000))) rfl rfl rfl) ?_
    refine GL.val trivial rfl (OV.assign (v := .bool (decide ((x1.1 : Int) ≥ 3000))) rfl) ?_
    refine GL.nil ?_
    exact GC.ret (fun _ _ hf hs => post_tmp1 rfl rfl hf hs ⟨(decide ((x1.1 : Int) ≥ 3000)), rfl, h⟩)

def sh_law28_own (C : Ctx) (p_l : Sl) (K : Sl → Heap → Prop) (H : Heap) : Prop :=
  lp (α := Sl × Int) (Sl.nil, 0) H (fun x1 J2 H3 =>
 ift (decide ((x1.2 : Int) < (Sl.len p_l : Int)))
 (nw ([]) (fun b5 H6 =>
 ixa p_l x1.2 fun p7 =>
 ldL H6 (p7.1, p7.2 + (x1.2 : Int).toNat * 1) fun x12 =>
 apS ([sv []]) 16 (Sl.of (some (b5, 0)) 0 0) x12 (fun r14 H15 =>
 apd ([slv Sl.nil]) 24 x1.1 ([slv r14]) 1 (fun r16 H17 =>
 J2 (r16, (w .i64 (x1.2 + 1))) H17) H15) H6) H3)
 (K x1.1 H3))

theorem ad_law28_own (C : Ctx) (p_l : Sl) (K : Sl → Heap → Prop) (H : Heap) (h : sh_law28_own C p_l K H) : c_law28_own C p_l K H := by
  refine Spec.enter Tryd.func14 rfl Tryd.ntmps14 rfl ?_
  refine GC.sub [(0, slv p_l)] ⟨rfl, trivial⟩ ?_
  refine GC.seq ?_
  refine GC.region ?_
  refine GL.val trivial rfl (OV.assign (v := slv Sl.nil) rfl) ?_
  refine GL.nil ?_
  refine GC.seq ?_
  refine GC.region ?_
  refine GL.val trivial rfl (OV.assign (v := slv Sl.nil) rfl) ?_
  refine GL.nil ?_
  refine GC.seq ?_
  refine GC.seq ?_
  refine GC.region ?_
  refine GL.val trivial rfl (OV.assign (v := .int .i64 0) rfl) ?_
  refine GL.nil ?_
  refine GC.block ?_
  refine GC.loop (α := Sl × Int) h (fun x1 => [(3, slv x1.1), (4, .int .i64 x1.2), (0, slv p_l)]) ⟨rfl, rfl, rfl, trivial⟩ ?_
  intro x1 H3 J2 h
  refine GC.seq ?_
  refine GC.seq ?_
  refine GC.region ?_
  refine GL.val trivial rfl (OV.move (v := .int .i64 x1.2) rfl) ?_
  refine GL.val trivial rfl (OV.move (v := slv p_l) rfl) ?_
  refine GL.val trivial rfl (OV.lenSl (s := p_l) rfl rfl) ?_
  refine GL.val trivial rfl (OV.ibin (v := .bool (decide ((x1.2 : Int) < (Sl.len p_l : Int)))) rfl rfl rfl) ?_
  refine GL.nil ?_
  refine GC.cond (b := decide ((x1.2 : Int) < (Sl.len p_l : Int))) rfl (fun hc4 => ?_) (fun hc4 => ?_)
  · replace h := And.left h hc4
    refine GC.skip ?_
    refine GC.seq ?_
    refine GC.block ?_
    refine GC.region ?_
    refine GL.val trivial rfl (OV.move (v := slv x1.1) rfl) ?_
    refine GL.buildSlice (cs := []) h trivial rfl (vs := []) rfl ⟨9, fun _ => by kernel_rfl⟩ ?_
    intro b5 H6 h
    refine GL.val trivial rfl (OV.move (v := slv p_l) rfl) ?_
    refine GL.val trivial rfl (OV.move (v := .int .i64 x1.2) rfl) ?_
    obtain ⟨p7, ha8, hb9, hc10, hd11, h⟩ := h
    refine GL.val trivial rfl (OV.indexAddr (s := p_l) rfl rfl rfl rfl ha8 hb9 hc10 hd11) ?_
    obtain ⟨x12, hr13, h⟩ := h
    refine GL.val trivial rfl (OV.load (p := (p7.1, p7.2 + (x1.2 : Int).toNat * 1)) rfl rfl hr13) ?_
    refine GL.appendS (s := (Sl.of (some (b5, 0)) 0 0)) (s2 := x12) (zc := [sv []]) (bytes := 16) h trivial rfl rfl rfl ⟨⟨_, _, _, rfl, rfl, rfl, rfl, rfl, rfl⟩⟩ rfl ?_
    intro r14 H15 h
    refine GL.appendLit (s := x1.1) (ys := [slv r14]) (zc := [slv Sl.nil]) (bytes := 24) h trivial rfl (fun _ => trivial) rfl (fun _ => rfl) (fun _ => rfl) (vs := [(0, slv r14)]) rfl ⟨28, fun _ => by kernel_rfl⟩ ⟨⟨_, _, _, rfl, rfl, rfl, rfl, rfl, rfl⟩⟩ rfl rfl ?_
    intro _ r16 H17 h
    refine GL.val trivial rfl (OV.assign (v := slv r16) rfl) ?_
    refine GL.nil_to (fun _ _ h => h) ?_
    refine GC.region ?_
    refine GL.val trivial rfl (OV.move (v := .int .i64 x1.2) rfl) ?_
    refine GL.val trivial rfl (OV.ibin (v := .int .i64 (w .i64 (x1.2 + 1))) rfl rfl rfl) ?_
    refine GL.val trivial rfl (OV.assign (v := .int .i64 (w .i64 (x1.2 + 1))) rfl) ?_
    exact GL.jump (fun _ _ h => h) (r16, (w .i64 (x1.2 + 1))) h ⟨rfl, rfl, rfl, trivial⟩
  · replace h := And.right h hc4
    refine GC.exit_to (fun _ _ h => h) ?_
    refine GC.seq ?_
    refine GC.region ?_
    refine GL.val trivial rfl (OV.move (v := slv x1.1) rfl) ?_
    refine GL.val trivial rfl (OV.assign (v := slv x1.1) rfl) ?_
    refine GL.nil ?_
    exact GC.ret (fun _ _ hf hs => post_tmp1 rfl rfl hf hs ⟨x1.1, rfl, h⟩)

def sh_csv_Write (C : Ctx) (p_l : Sl) (K : Str → Int → Heap → Prop) (H : Heap) : Prop :=
  nwB 42 5 (fun b1 H2 =>
 lp (α := Int) 0 H2 (fun x3 J4 H5 =>
 ift (decide ((x3 : Int) < (Sl.len p_l : Int)))
 (ixa p_l x3 fun p7 =>
 ldL H5 (p7.1, p7.2 + (x3 : Int).toNat * 1) fun x12 =>
 ift (((Sl.len x12 : Int) : Int) == 0)
 (K [] 1 H5)
 (jn (α := Unit) (fun x16 H17 =>
 lp (α := Int) 0 H17 (fun x35 J36 H37 =>
 ift (decide ((x35 : Int) < (Sl.len x12 : Int)))
 (ixa x12 x35 fun p39 =>
 ldS H37 (p39.1, p39.2 + (x35 : Int).toNat * 1) fun x44 =>
 jn (α := Unit) (fun x47 H48 =>
 c_csv_own C x44 (fun r53 H54 =>
 c_strings_Builder_WriteString C (some (b1, 0)) r53 (fun r55 r56 H57 =>
 J36 (w .i64 (x35 + 1)) H57) H54) H48)
 (fun J46 => ift (decide ((x35 : Int) > 0))
 (c_strings_Builder_WriteByte C (some (b1, 0)) 44 (fun r51 H52 =>
 J46 () H52) H37)
 (J46 () H37)))
 (c_strings_Builder_WriteString C (some (b1, 0)) [13, 10] (fun r58 r59 H60 =>
 J4 (w .i64 (x3 + 1)) H60) H37)))
 (fun J15 => jn (α := Bool) (fun b19 H30 =>
 ift b19
 (c_strings_Builder_WriteString C (some (b1, 0)) [34, 34] (fun r32 r33 H34 =>
 J15 () H34) H30)
 (J15 () H30))
 (fun J20 => ift (((Sl.len x12 : Int) : Int) == 1)
 (ixa x12 0 fun p23 =>
 ldS H5 (p23.1, p23.2 + (0 : Int).toNat * 1) fun x28 =>
 J20 (x28 == ([] : Str)) H5)
 (J20 false H5)))))
 (c_strings_Builder_String C (some (b1, 0)) (fun r61 H62 =>
 K r61 0 H62) H5))) H

theorem ad_csv_Write (C : Ctx) (p_l : Sl) (K : Str → Int → Heap → Prop) (H : Heap) (h : sh_csv_Write C p_l K H) : c_csv_Write C p_l K H := by
  refine Spec.enter Tryd.func15 rfl Tryd.ntmps15 rfl ?_
  refine GC.sub [(0, slv p_l)] ⟨rfl, trivial⟩ ?_
  refine GC.seq ?_
  refine GC.region ?_
  refine GL.val trivial rfl (OV.assign (v := sv []) rfl) ?_
  refine GL.val trivial rfl (OV.assign (v := .int .i64 0) rfl) ?_
  refine GL.nil ?_
  refine GC.seq ?_
  refine GC.region ?_
  refine GL.allocB (T := 42) (e := 5) h trivial rfl rfl rfl ?_
  intro b1 H2 h
  refine GL.nil ?_
  refine GC.seq ?_
  refine GC.seq ?_
  refine GC.region ?_
  refine GL.val trivial rfl (OV.move (v := slv p_l) rfl) ?_
  refine GL.val trivial rfl (OV.lenSl (s := p_l) rfl rfl) ?_
  refine GL.val trivial rfl (OV.move (v := .int .i64 0) rfl) ?_
  refine GL.nil ?_
  refine GC.block ?_
  refine GC.loop (α := Int) h (fun x3 => [(11, .int .i64 x3), (4, pv (some (b1, 0))), (9, slv p_l), (10, .int .i64 (Sl.len p_l : Int))]) ⟨rfl, rfl, rfl, rfl, trivial⟩ ?_
  intro x3 H5 J4 h
  refine GC.seq ?_
  refine GC.region ?_
  refine GL.val trivial rfl (OV.ibin (v := .bool (decide ((x3 : Int) < (Sl.len p_l : Int)))) rfl rfl rfl) ?_
  refine GL.nil ?_
  refine GC.seq ?_
  refine GC.cond (b := decide ((x3 : Int) < (Sl.len p_l : Int))) rfl (fun hc6 => ?_) (fun hc6 => ?_)
  · replace h := And.left h hc6
    refine GC.skip ?_
    refine GC.seq ?_
    refine GC.block ?_
    refine GC.seq ?_
    refine GC.region ?_
    obtain ⟨p7, ha8, hb9, hc10, hd11, h⟩ := h
    refine GL.val trivial rfl (OV.indexAddr (s := p_l) rfl rfl rfl rfl ha8 hb9 hc10 hd11) ?_
    obtain ⟨x12, hr13, h⟩ := h
    refine GL.val trivial rfl (OV.load (p := (p7.1, p7.2 + (x3 : Int).toNat * 1)) rfl rfl hr13) ?_
    refine GL.val trivial rfl (OV.assign (v := slv x12) rfl) ?_
    refine GL.nil ?_
    refine GC.seq ?_
    refine GC.seq ?_
    refine GC.region ?_
    refine GL.val trivial rfl (OV.move (v := slv x12) rfl) ?_
    refine GL.val trivial rfl (OV.lenSl (s := x12) rfl rfl) ?_
    refine GL.val trivial rfl (OV.ibin (v := .bool (((Sl.len x12 : Int) : Int) == 0)) rfl rfl rfl) ?_
    refine GL.nil ?_
    refine GC.cond (b := ((Sl.len x12 : Int) : Int) == 0) rfl (fun hc14 => ?_) (fun hc14 => ?_)
    · replace h := And.left h hc14
      refine GC.seq ?_
      refine GC.region ?_
      refine GL.val trivial rfl (OV.assign (v := sv []) rfl) ?_
      refine GL.val trivial rfl (OV.assign (v := .int .i64 1) rfl) ?_
      refine GL.nil ?_
      exact GC.ret (fun _ _ hf hs => post_tmp2 rfl rfl rfl hf hs ⟨[], 1, rfl, h⟩)
    · replace h := And.right h hc14
      refine GC.skip ?_
      obtain ⟨J15, h, hR18⟩ := h
      refine GC.join (α := Unit) J15 (fun _ => [(4, pv (some (b1, 0))), (6, slv x12), (9, slv p_l), (10, .int .i64 (Sl.len p_l : Int)), (11, .int .i64 x3)]) ?_ ?_
      · skip
        refine GC.seq ?_
        refine GC.region ?_
        refine GL.val trivial rfl (OV.move (v := slv x12) rfl) ?_
        refine GL.val trivial rfl (OV.lenSl (s := x12) rfl rfl) ?_
        refine GL.val trivial rfl (OV.ibin (v := .bool (((Sl.len x12 : Int) : Int) == 1)) rfl rfl rfl) ?_
        refine GL.val trivial rfl (OV.move (v := .bool (((Sl.len x12 : Int) : Int) == 1)) rfl) ?_
        obtain ⟨J20, h, hR21⟩ := h
        refine GL.cut (α := Bool) 5 J20 (fun b19 => [(26, .bool b19), (4, pv (some (b1, 0))), (6, slv x12), (9, slv p_l), (10, .int .i64 (Sl.len p_l : Int)), (11, .int .i64 x3)]) ?_ ?_
        · rcases Bool.eq_false_or_eq_true (((Sl.len x12 : Int) : Int) == 1) with hc22 | hc22
          · skip
            replace h := And.left h hc22
            refine GL.val ⟨_, _, rfl, rfl, hc22⟩ rfl (OV.move (v := slv x12) rfl) ?_
            obtain ⟨p23, ha24, hb25, hc26, hd27, h⟩ := h
            refine GL.val ⟨_, _, rfl, rfl, hc22⟩ rfl (OV.indexAddr (s := x12) rfl rfl rfl rfl ha24 hb25 hc26 hd27) ?_
            obtain ⟨x28, hr29, h⟩ := h
            refine GL.val ⟨_, _, rfl, rfl, hc22⟩ rfl (OV.load (p := (p23.1, p23.2 + (0 : Int).toNat * 1)) rfl rfl hr29) ?_
            refine GL.val ⟨_, _, rfl, rfl, hc22⟩ rfl (OV.sbin (a := x28) (b := ([] : Str)) (v := .bool (x28 == ([] : Str))) rfl rfl rfl) ?_
            refine GL.val trivial rfl (OV.pickT (b := ((Sl.len x12 : Int) : Int) == 1) (v := .bool (x28 == ([] : Str))) rfl hc22 rfl) ?_
            exact GL.jump (fun _ _ h => h) (x28 == ([] : Str)) h ⟨rfl, rfl, rfl, rfl, rfl, rfl, trivial⟩
          · skip
            replace h := And.right h hc22
            refine GL.skip ⟨_, rfl, .inl ⟨_, rfl, hc22⟩⟩ rfl ?_
            refine GL.skip ⟨_, rfl, .inl ⟨_, rfl, hc22⟩⟩ rfl ?_
            refine GL.skip ⟨_, rfl, .inl ⟨_, rfl, hc22⟩⟩ rfl ?_
            refine GL.skip ⟨_, rfl, .inl ⟨_, rfl, hc22⟩⟩ rfl ?_
            refine GL.val trivial rfl (OV.pickF (b := ((Sl.len x12 : Int) : Int) == 1) (v := .bool false) rfl hc22 rfl) ?_
            exact GL.jump (fun _ _ h => h) false h ⟨rfl, rfl, rfl, rfl, rfl, rfl, trivial⟩
        intro b19 H30 h
        replace h := hR21 b19 H30 h
        refine GL.nil ?_
        refine GC.cond (b := b19) rfl (fun hc31 => ?_) (fun hc31 => ?_)
        · replace h := And.left h hc31
          refine GC.region ?_
          refine GL.call h trivial rfl ok_strings_Builder_WriteString (vs := [pv (some (b1, 0)), sv [34, 34]]) rfl ?_
          rintro _ H34 ⟨r32, r33, rfl, h⟩
          exact GL.jump (fun _ _ h => h) () h ⟨rfl, rfl, rfl, rfl, rfl, trivial⟩
        · replace h := And.right h hc31
          exact GC.jump (fun _ _ h => h) () h ⟨rfl, rfl, rfl, rfl, rfl, trivial⟩
      · intro x16 H17 h
        replace h := hR18 x16 H17 h
        refine GC.seq ?_
        refine GC.seq ?_
        refine GC.region ?_
        refine GL.val trivial rfl (OV.move (v := slv x12) rfl) ?_
        refine GL.val trivial rfl (OV.lenSl (s := x12) rfl rfl) ?_
        refine GL.val trivial rfl (OV.move (v := .int .i64 0) rfl) ?_
        refine GL.nil ?_
        refine GC.block ?_
        refine GC.loop (α := Int) h (fun x35 => [(30, .int .i64 x35), (4, pv (some (b1, 0))), (9, slv p_l), (10, .int .i64 (Sl.len p_l : Int)), (11, .int .i64 x3), (28, slv x12), (29, .int .i64 (Sl.len x12 : Int))]) ⟨rfl, rfl, rfl, rfl, rfl, rfl, rfl, trivial⟩ ?_
        intro x35 H37 J36 h
        refine GC.seq ?_
        refine GC.region ?_
        refine GL.val trivial rfl (OV.ibin (v := .bool (decide ((x35 : Int) < (Sl.len x12 : Int)))) rfl rfl rfl) ?_
        refine GL.nil ?_
        refine GC.seq ?_
        refine GC.cond (b := decide ((x35 : Int) < (Sl.len x12 : Int))) rfl (fun hc38 => ?_) (fun hc38 => ?_)
        · replace h := And.left h hc38
          refine GC.skip ?_
          refine GC.seq ?_
          refine GC.block ?_
          refine GC.seq ?_
          refine GC.region ?_
          refine GL.val trivial rfl (OV.move (v := .int .i64 x35) rfl) ?_
          obtain ⟨p39, ha40, hb41, hc42, hd43, h⟩ := h
          refine GL.val trivial rfl (OV.indexAddr (s := x12) rfl rfl rfl rfl ha40 hb41 hc42 hd43) ?_
          obtain ⟨x44, hr45, h⟩ := h
          refine GL.val trivial rfl (OV.load (p := (p39.1, p39.2 + (x35 : Int).toNat * 1)) rfl rfl hr45) ?_
          refine GL.val trivial rfl (OV.assign (v := .int .i64 x35) rfl) ?_
          refine GL.val trivial rfl (OV.assign (v := sv x44) rfl) ?_
          refine GL.nil ?_
          obtain ⟨J46, h, hR49⟩ := h
          refine GC.join (α := Unit) J46 (fun _ => [(4, pv (some (b1, 0))), (8, sv x44), (9, slv p_l), (10, .int .i64 (Sl.len p_l : Int)), (11, .int .i64 x3), (28, slv x12), (29, .int .i64 (Sl.len x12 : Int)), (30, .int .i64 x35)]) ?_ ?_
          · skip
            refine GC.seq ?_
            refine GC.region ?_
            refine GL.val trivial rfl (OV.move (v := .int .i64 x35) rfl) ?_
            refine GL.val trivial rfl (OV.ibin (v := .bool (decide ((x35 : Int) > 0))) rfl rfl rfl) ?_
            refine GL.nil ?_
            refine GC.cond (b := decide ((x35 : Int) > 0)) rfl (fun hc50 => ?_) (fun hc50 => ?_)
            · replace h := And.left h hc50
              refine GC.region ?_
              refine GL.call h trivial rfl ok_strings_Builder_WriteByte (vs := [pv (some (b1, 0)), .int .u8 44]) rfl ?_
              rintro _ H52 ⟨r51, rfl, h⟩
              exact GL.jump (fun _ _ h => h) () h ⟨rfl, rfl, rfl, rfl, rfl, rfl, rfl, rfl, trivial⟩
            · replace h := And.right h hc50
              exact GC.jump (fun _ _ h => h) () h ⟨rfl, rfl, rfl, rfl, rfl, rfl, rfl, rfl, trivial⟩
          · intro x47 H48 h
            replace h := hR49 x47 H48 h
            refine GC.region ?_
            refine GL.val trivial rfl (OV.move (v := sv x44) rfl) ?_
            refine GL.call h trivial rfl ok_csv_own (vs := [sv x44]) rfl ?_
            rintro _ H54 ⟨r53, rfl, h⟩
            refine GL.call h trivial rfl ok_strings_Builder_WriteString (vs := [pv (some (b1, 0)), sv r53]) rfl ?_
            rintro _ H57 ⟨r55, r56, rfl, h⟩
            refine GL.nil_to (fun _ _ h => h) ?_
            refine GC.region ?_
            refine GL.val trivial rfl (OV.ibin (v := .int .i64 (w .i64 (x35 + 1))) rfl rfl rfl) ?_
            refine GL.val trivial rfl (OV.move (v := .int .i64 (w .i64 (x35 + 1))) rfl) ?_
            exact GL.jump (fun _ _ h => h) (w .i64 (x35 + 1)) h ⟨rfl, rfl, rfl, rfl, rfl, rfl, rfl, trivial⟩
        · replace h := And.right h hc38
          refine GC.exit_to (fun _ _ h => h) ?_
          refine GC.region ?_
          refine GL.call h trivial rfl ok_strings_Builder_WriteString (vs := [pv (some (b1, 0)), sv [13, 10]]) rfl ?_
          rintro _ H60 ⟨r58, r59, rfl, h⟩
          refine GL.nil_to (fun _ _ h => h) ?_
          refine GC.region ?_
          refine GL.val trivial rfl (OV.ibin (v := .int .i64 (w .i64 (x3 + 1))) rfl rfl rfl) ?_
          refine GL.val trivial rfl (OV.move (v := .int .i64 (w .i64 (x3 + 1))) rfl) ?_
          exact GL.jump (fun _ _ h => h) (w .i64 (x3 + 1)) h ⟨rfl, rfl, rfl, rfl, trivial⟩
  · replace h := And.right h hc6
    refine GC.exit_to (fun _ _ h => h) ?_
    refine GC.seq ?_
    refine GC.region ?_
    refine GL.call h trivial rfl ok_strings_Builder_String (vs := [pv (some (b1, 0))]) rfl ?_
    rintro _ H62 ⟨r61, rfl, h⟩
    refine GL.val trivial rfl (OV.assign (v := sv r61) rfl) ?_
    refine GL.val trivial rfl (OV.assign (v := .int .i64 0) rfl) ?_
    refine GL.nil ?_
    exact GC.ret (fun _ _ hf hs => post_tmp2 rfl rfl rfl hf hs ⟨r61, 0, rfl, h⟩)

def sh_ref28_Write (C : Ctx) (p_l : Sl) (K : Str → Int → Heap → Prop) (H : Heap) : Prop :=
  lp (α := Str × Int) ([], 0) H (fun x1 J2 H3 =>
 ift (decide ((x1.2 : Int) < (Sl.len p_l : Int)))
 (ixa p_l x1.2 fun p5 =>
 ldL H3 (p5.1, p5.2 + (x1.2 : Int).toNat * 1) fun x10 =>
 ift (((Sl.len x10 : Int) : Int) == 0)
 (K [] 1 H3)
 (jn (α := Str) (fun x14 H15 =>
 lp (α := Str × Int) (x14, 0) H15 (fun x45 J46 H47 =>
 ixa p_l x1.2 fun p48 =>
 ldL H47 (p48.1, p48.2 + (x1.2 : Int).toNat * 1) fun x53 =>
 ift (decide ((x45.2 : Int) < (Sl.len x53 : Int)))
 (jn (α := Str) (fun x57 H58 =>
 ixa p_l x1.2 fun p62 =>
 ldL H58 (p62.1, p62.2 + (x1.2 : Int).toNat * 1) fun x67 =>
 ixa x67 x45.2 fun p69 =>
 ldS H58 (p69.1, p69.2 + (x45.2 : Int).toNat * 1) fun x74 =>
 c_ref28_Own C x74 (fun r76 H77 =>
 catOk x57 r76 ∧
 J46 ((x57 ++ r76), (w .i64 (x45.2 + 1))) H77) H58)
 (fun J56 => ift (decide ((x45.2 : Int) > 0))
 (catOk x45.1 ([44] : Str) ∧
 J56 (x45.1 ++ ([44] : Str)) H47)
 (J56 x45.1 H47)))
 (catOk x45.1 ([13, 10] : Str) ∧
 J2 ((x45.1 ++ ([13, 10] : Str)), (w .i64 (x1.2 + 1))) H47)))
 (fun J13 => ixa p_l x1.2 fun p17 =>
 ldL H3 (p17.1, p17.2 + (x1.2 : Int).toNat * 1) fun x22 =>
 jn (α := Bool) (fun b24 H42 =>
 ift b24
 (catOk x1.1 ([34, 34] : Str) ∧
 J13 (x1.1 ++ ([34, 34] : Str)) H42)
 (J13 x1.1 H42))
 (fun J25 => ift (((Sl.len x22 : Int) : Int) == 1)
 (ixa p_l x1.2 fun p28 =>
 ldL H3 (p28.1, p28.2 + (x1.2 : Int).toNat * 1) fun x33 =>
 ixa x33 0 fun p35 =>
 ldS H3 (p35.1, p35.2 + (0 : Int).toNat * 1) fun x40 =>
 J25 (x40 == ([] : Str)) H3)
 (J25 false H3)))))
 (K x1.1 0 H3))

theorem ad_ref28_Write (C : Ctx) (p_l : Sl) (K : Str → Int → Heap → Prop) (H : Heap) (h : sh_ref28_Write C p_l K H) : c_ref28_Write C p_l K H := by
  refine Spec.enter Tryd.func16 rfl Tryd.ntmps16 rfl ?_
  refine GC.sub [(0, slv p_l)] ⟨rfl, trivial⟩ ?_
  refine GC.seq ?_
  refine GC.region ?_
  refine GL.val trivial rfl (OV.assign (v := sv []) rfl) ?_
  refine GL.val trivial rfl (OV.assign (v := .int .i64 0) rfl) ?_
  refine GL.nil ?_
  refine GC.seq ?_
  refine GC.region ?_
  refine GL.val trivial rfl (OV.assign (v := sv []) rfl) ?_
  refine GL.nil ?_
  refine GC.seq ?_
  refine GC.seq ?_
  refine GC.region ?_
  refine GL.val trivial rfl (OV.assign (v := .int .i64 0) rfl) ?_
  refine GL.nil ?_
  refine GC.block ?_
  refine GC.loop (α := Str × Int) h (fun x1 => [(4, sv x1.1), (5, .int .i64 x1.2), (0, slv p_l)]) ⟨rfl, rfl, rfl, trivial⟩ ?_
  intro x1 H3 J2 h
  refine GC.seq ?_
  refine GC.seq ?_
  refine GC.region ?_
  refine GL.val trivial rfl (OV.move (v := .int .i64 x1.2) rfl) ?_
  refine GL.val trivial rfl (OV.move (v := slv p_l) rfl) ?_
  refine GL.val trivial rfl (OV.lenSl (s := p_l) rfl rfl) ?_
  refine GL.val trivial rfl (OV.ibin (v := .bool (decide ((x1.2 : Int) < (Sl.len p_l : Int)))) rfl rfl rfl) ?_
  refine GL.nil ?_
  refine GC.cond (b := decide ((x1.2 : Int) < (Sl.len p_l : Int))) rfl (fun hc4 => ?_) (fun hc4 => ?_)
  · replace h := And.left h hc4
    refine GC.skip ?_
    refine GC.seq ?_
    refine GC.block ?_
    refine GC.seq ?_
    refine GC.seq ?_
    refine GC.region ?_
    refine GL.val trivial rfl (OV.move (v := slv p_l) rfl) ?_
    refine GL.val trivial rfl (OV.move (v := .int .i64 x1.2) rfl) ?_
    obtain ⟨p5, ha6, hb7, hc8, hd9, h⟩ := h
    refine GL.val trivial rfl (OV.indexAddr (s := p_l) rfl rfl rfl rfl ha6 hb7 hc8 hd9) ?_
    obtain ⟨x10, hr11, h⟩ := h
    refine GL.val trivial rfl (OV.load (p := (p5.1, p5.2 + (x1.2 : Int).toNat * 1)) rfl rfl hr11) ?_
    refine GL.val trivial rfl (OV.lenSl (s := x10) rfl rfl) ?_
    refine GL.val trivial rfl (OV.ibin (v := .bool (((Sl.len x10 : Int) : Int) == 0)) rfl rfl rfl) ?_
    refine GL.nil ?_
    refine GC.cond (b := ((Sl.len x10 : Int) : Int) == 0) rfl (fun hc12 => ?_) (fun hc12 => ?_)
    · replace h := And.left h hc12
      refine GC.seq ?_
      refine GC.region ?_
      refine GL.val trivial rfl (OV.assign (v := sv []) rfl) ?_
      refine GL.val trivial rfl (OV.assign (v := .int .i64 1) rfl) ?_
      refine GL.nil ?_
      exact GC.ret (fun _ _ hf hs => post_tmp2 rfl rfl rfl hf hs ⟨[], 1, rfl, h⟩)
    · replace h := And.right h hc12
      refine GC.skip ?_
      obtain ⟨J13, h, hR16⟩ := h
      refine GC.join (α := Str) J13 (fun x14 => [(4, sv x14), (0, slv p_l), (5, .int .i64 x1.2)]) ?_ ?_
      · skip
        refine GC.seq ?_
        refine GC.region ?_
        refine GL.val trivial rfl (OV.move (v := slv p_l) rfl) ?_
        refine GL.val trivial rfl (OV.move (v := .int .i64 x1.2) rfl) ?_
        obtain ⟨p17, ha18, hb19, hc20, hd21, h⟩ := h
        refine GL.val trivial rfl (OV.indexAddr (s := p_l) rfl rfl rfl rfl ha18 hb19 hc20 hd21) ?_
        obtain ⟨x22, hr23, h⟩ := h
        refine GL.val trivial rfl (OV.load (p := (p17.1, p17.2 + (x1.2 : Int).toNat * 1)) rfl rfl hr23) ?_
        refine GL.val trivial rfl (OV.lenSl (s := x22) rfl rfl) ?_
        refine GL.val trivial rfl (OV.ibin (v := .bool (((Sl.len x22 : Int) : Int) == 1)) rfl rfl rfl) ?_
        refine GL.val trivial rfl (OV.move (v := .bool (((Sl.len x22 : Int) : Int) == 1)) rfl) ?_
        obtain ⟨J25, h, hR26⟩ := h
        refine GL.cut (α := Bool) 8 J25 (fun b24 => [(33, .bool b24), (0, slv p_l), (4, sv x1.1), (5, .int .i64 x1.2)]) ?_ ?_
        · rcases Bool.eq_false_or_eq_true (((Sl.len x22 : Int) : Int) == 1) with hc27 | hc27
          · skip
            replace h := And.left h hc27
            refine GL.val ⟨_, _, rfl, rfl, hc27⟩ rfl (OV.move (v := slv p_l) rfl) ?_
            refine GL.val ⟨_, _, rfl, rfl, hc27⟩ rfl (OV.move (v := .int .i64 x1.2) rfl) ?_
            obtain ⟨p28, ha29, hb30, hc31, hd32, h⟩ := h
            refine GL.val ⟨_, _, rfl, rfl, hc27⟩ rfl (OV.indexAddr (s := p_l) rfl rfl rfl rfl ha29 hb30 hc31 hd32) ?_
            obtain ⟨x33, hr34, h⟩ := h
            refine GL.val ⟨_, _, rfl, rfl, hc27⟩ rfl (OV.load (p := (p28.1, p28.2 + (x1.2 : Int).toNat * 1)) rfl rfl hr34) ?_
            obtain ⟨p35, ha36, hb37, hc38, hd39, h⟩ := h
            refine GL.val ⟨_, _, rfl, rfl, hc27⟩ rfl (OV.indexAddr (s := x33) rfl rfl rfl rfl ha36 hb37 hc38 hd39) ?_
            obtain ⟨x40, hr41, h⟩ := h
            refine GL.val ⟨_, _, rfl, rfl, hc27⟩ rfl (OV.load (p := (p35.1, p35.2 + (0 : Int).toNat * 1)) rfl rfl hr41) ?_
            refine GL.val ⟨_, _, rfl, rfl, hc27⟩ rfl (OV.sbin (a := x40) (b := ([] : Str)) (v := .bool (x40 == ([] : Str))) rfl rfl rfl) ?_
            refine GL.val trivial rfl (OV.pickT (b := ((Sl.len x22 : Int) : Int) == 1) (v := .bool (x40 == ([] : Str))) rfl hc27 rfl) ?_
            exact GL.jump (fun _ _ h => h) (x40 == ([] : Str)) h ⟨rfl, rfl, rfl, rfl, trivial⟩
          · skip
            replace h := And.right h hc27
            refine GL.skip ⟨_, rfl, .inl ⟨_, rfl, hc27⟩⟩ rfl ?_
            refine GL.skip ⟨_, rfl, .inl ⟨_, rfl, hc27⟩⟩ rfl ?_
            refine GL.skip ⟨_, rfl, .inl ⟨_, rfl, hc27⟩⟩ rfl ?_
            refine GL.skip ⟨_, rfl, .inl ⟨_, rfl, hc27⟩⟩ rfl ?_
            refine GL.skip ⟨_, rfl, .inl ⟨_, rfl, hc27⟩⟩ rfl ?_
            refine GL.skip ⟨_, rfl, .inl ⟨_, rfl, hc27⟩⟩ rfl ?_
            refine GL.skip ⟨_, rfl, .inl ⟨_, rfl, hc27⟩⟩ rfl ?_
            refine GL.val trivial rfl (OV.pickF (b := ((Sl.len x22 : Int) : Int) == 1) (v := .bool false) rfl hc27 rfl) ?_
            exact GL.jump (fun _ _ h => h) false h ⟨rfl, rfl, rfl, rfl, trivial⟩
        intro b24 H42 h
        replace h := hR26 b24 H42 h
        refine GL.nil ?_
        refine GC.cond (b := b24) rfl (fun hc43 => ?_) (fun hc43 => ?_)
        · replace h := And.left h hc43
          refine GC.region ?_
          refine GL.val trivial rfl (OV.move (v := sv x1.1) rfl) ?_
          obtain ⟨hl44, h⟩ := h
          refine GL.val trivial rfl (OV.cat (a := x1.1) (b := ([34, 34] : Str)) rfl rfl hl44) ?_
          refine GL.val trivial rfl (OV.assign (v := sv (x1.1 ++ ([34, 34] : Str))) rfl) ?_
          exact GL.jump (fun _ _ h => h) (x1.1 ++ ([34, 34] : Str)) h ⟨rfl, rfl, rfl, trivial⟩
        · replace h := And.right h hc43
          exact GC.jump (fun _ _ h => h) x1.1 h ⟨rfl, rfl, rfl, trivial⟩
      · intro x14 H15 h
        replace h := hR16 x14 H15 h
        refine GC.seq ?_
        refine GC.seq ?_
        refine GC.region ?_
        refine GL.val trivial rfl (OV.assign (v := .int .i64 0) rfl) ?_
        refine GL.nil ?_
        refine GC.block ?_
        refine GC.loop (α := Str × Int) h (fun x45 => [(4, sv x45.1), (6, .int .i64 x45.2), (0, slv p_l), (5, .int .i64 x1.2)]) ⟨rfl, rfl, rfl, rfl, trivial⟩ ?_
        intro x45 H47 J46 h
        refine GC.seq ?_
        refine GC.seq ?_
        refine GC.region ?_
        refine GL.val trivial rfl (OV.move (v := .int .i64 x45.2) rfl) ?_
        refine GL.val trivial rfl (OV.move (v := slv p_l) rfl) ?_
        refine GL.val trivial rfl (OV.move (v := .int .i64 x1.2) rfl) ?_
        obtain ⟨p48, ha49, hb50, hc51, hd52, h⟩ := h
        refine GL.val trivial rfl (OV.indexAddr (s := p_l) rfl rfl rfl rfl ha49 hb50 hc51 hd52) ?_
        obtain ⟨x53, hr54, h⟩ := h
        refine GL.val trivial rfl (OV.load (p := (p48.1, p48.2 + (x1.2 : Int).toNat * 1)) rfl rfl hr54) ?_
        refine GL.val trivial rfl (OV.lenSl (s := x53) rfl rfl) ?_
        refine GL.val trivial rfl (OV.ibin (v := .bool (decide ((x45.2 : Int) < (Sl.len x53 : Int)))) rfl rfl rfl) ?_
        refine GL.nil ?_
        refine GC.cond (b := decide ((x45.2 : Int) < (Sl.len x53 : Int))) rfl (fun hc55 => ?_) (fun hc55 => ?_)
        · replace h := And.left h hc55
          refine GC.skip ?_
          refine GC.seq ?_
          refine GC.block ?_
          obtain ⟨J56, h, hR59⟩ := h
          refine GC.join (α := Str) J56 (fun x57 => [(4, sv x57), (0, slv p_l), (5, .int .i64 x1.2), (6, .int .i64 x45.2)]) ?_ ?_
          · skip
            refine GC.seq ?_
            refine GC.region ?_
            refine GL.val trivial rfl (OV.move (v := .int .i64 x45.2) rfl) ?_
            refine GL.val trivial rfl (OV.ibin (v := .bool (decide ((x45.2 : Int) > 0))) rfl rfl rfl) ?_
            refine GL.nil ?_
            refine GC.cond (b := decide ((x45.2 : Int) > 0)) rfl (fun hc60 => ?_) (fun hc60 => ?_)
            · replace h := And.left h hc60
              refine GC.region ?_
              refine GL.val trivial rfl (OV.move (v := sv x45.1) rfl) ?_
              obtain ⟨hl61, h⟩ := h
              refine GL.val trivial rfl (OV.cat (a := x45.1) (b := ([44] : Str)) rfl rfl hl61) ?_
              refine GL.val trivial rfl (OV.assign (v := sv (x45.1 ++ ([44] : Str))) rfl) ?_
              exact GL.jump (fun _ _ h => h) (x45.1 ++ ([44] : Str)) h ⟨rfl, rfl, rfl, rfl, trivial⟩
            · replace h := And.right h hc60
              exact GC.jump (fun _ _ h => h) x45.1 h ⟨rfl, rfl, rfl, rfl, trivial⟩
          · intro x57 H58 h
            replace h := hR59 x57 H58 h
            refine GC.region ?_
            refine GL.val trivial rfl (OV.move (v := sv x57) rfl) ?_
            refine GL.val trivial rfl (OV.move (v := slv p_l) rfl) ?_
            refine GL.val trivial rfl (OV.move (v := .int .i64 x1.2) rfl) ?_
            obtain ⟨p62, ha63, hb64, hc65, hd66, h⟩ := h
            refine GL.val trivial rfl (OV.indexAddr (s := p_l) rfl rfl rfl rfl ha63 hb64 hc65 hd66) ?_
            obtain ⟨x67, hr68, h⟩ := h
            refine GL.val trivial rfl (OV.load (p := (p62.1, p62.2 + (x1.2 : Int).toNat * 1)) rfl rfl hr68) ?_
            refine GL.val trivial rfl (OV.move (v := .int .i64 x45.2) rfl) ?_
            obtain ⟨p69, ha70, hb71, hc72, hd73, h⟩ := h
            refine GL.val trivial rfl (OV.indexAddr (s := x67) rfl rfl rfl rfl ha70 hb71 hc72 hd73) ?_
            obtain ⟨x74, hr75, h⟩ := h
            refine GL.val trivial rfl (OV.load (p := (p69.1, p69.2 + (x45.2 : Int).toNat * 1)) rfl rfl hr75) ?_
            refine GL.call h trivial rfl ok_ref28_Own (vs := [sv x74]) rfl ?_
            rintro _ H77 ⟨r76, rfl, h⟩
            obtain ⟨hl78, h⟩ := h
            refine GL.val trivial rfl (OV.cat (a := x57) (b := r76) rfl rfl hl78) ?_
            refine GL.val trivial rfl (OV.assign (v := sv (x57 ++ r76)) rfl) ?_
            refine GL.nil_to (fun _ _ h => h) ?_
            refine GC.region ?_
            refine GL.val trivial rfl (OV.move (v := .int .i64 x45.2) rfl) ?_
            refine GL.val trivial rfl (OV.ibin (v := .int .i64 (w .i64 (x45.2 + 1))) rfl rfl rfl) ?_
            refine GL.val trivial rfl (OV.assign (v := .int .i64 (w .i64 (x45.2 + 1))) rfl) ?_
            exact GL.jump (fun _ _ h => h) ((x57 ++ r76), (w .i64 (x45.2 + 1))) h ⟨rfl, rfl, rfl, rfl, trivial⟩
        · replace h := And.right h hc55
          refine GC.exit_to (fun _ _ h => h) ?_
          refine GC.region ?_
          refine GL.val trivial rfl (OV.move (v := sv x45.1) rfl) ?_
          obtain ⟨hl79, h⟩ := h
          refine GL.val trivial rfl (OV.cat (a := x45.1) (b := ([13, 10] : Str)) rfl rfl hl79) ?_
          refine GL.val trivial rfl (OV.assign (v := sv (x45.1 ++ ([13, 10] : Str))) rfl) ?_
          refine GL.nil_to (fun _ _ h => h) ?_
          refine GC.region ?_
          refine GL.val trivial rfl (OV.move (v := .int .i64 x1.2) rfl) ?_
          refine GL.val trivial rfl (OV.ibin (v := .int .i64 (w .i64 (x1.2 + 1))) rfl rfl rfl) ?_
          refine GL.val trivial rfl (OV.assign (v := .int .i64 (w .i64 (x1.2 + 1))) rfl) ?_
          exact GL.jump (fun _ _ h => h) ((x45.1 ++ ([13, 10] : Str)), (w .i64 (x1.2 + 1))) h ⟨rfl, rfl, rfl, trivial⟩
  · replace h := And.right h hc4
    refine GC.exit_to (fun _ _ h => h) ?_
    refine GC.seq ?_
    refine GC.region ?_
    refine GL.val trivial rfl (OV.move (v := sv x1.1) rfl) ?_
    refine GL.val trivial rfl (OV.assign (v := sv x1.1) rfl) ?_
    refine GL.val trivial rfl (OV.assign (v := .int .i64 0) rfl) ?_
    refine GL.nil ?_
    exact GC.ret (fun _ _ hf hs => post_tmp2 rfl rfl rfl hf hs ⟨x1.1, 0, rfl, h⟩)

def sh_csv_Read_1 (C : Ctx) (v0 : Nat × Nat) (v1 : Nat × Nat) (v2 : Nat × Nat) (K : Heap → Prop) (H : Heap) : Prop :=
  dr H fun Hs1 =>
 ldL Hs1 v0 fun x3 =>
 c_strings_Builder_String C (some v1) (fun r6 H7 =>
 Heap.le Hs1 H7 ∧
 nw ([sv r6]) (fun b9 H10 =>
 Heap.le Hs1 H10 ∧
 apS ([sv []]) 16 x3 (Sl.of (some (b9, 0)) 1 1) (fun r12 H13 =>
 Heap.le Hs1 H13 ∧
 st v0 (slv r12) (fun H14 =>
 c_strings_Builder_Reset C (some v1) (fun H15 =>
 st v2 (.int .i64 0) (fun H16 =>
 K H16) H15) H14) H13) H10) H7) H

theorem ad_csv_Read_1 (C : Ctx) (v0 : Nat × Nat) (v1 : Nat × Nat) (v2 : Nat × Nat) (K : Heap → Prop) (H : Heap) (h : sh_csv_Read_1 C v0 v1 v2 K H) : c_csv_Read_1 C v0 v1 v2 K H := by
  refine Spec.enter Tryd.func17 rfl Tryd.ntmps17 rfl ?_
  refine GC.sub [(0, pv (some v0)), (1, pv (some v1)), (2, pv (some v2))] ⟨rfl, rfl, rfl, trivial⟩ ?_
  refine GC.seq ?_
  obtain ⟨Hs1, hle2, h⟩ := h
  refine GC.tail (Hs := Hs1) 4 (by kernel_rfl) hle2 (by kernel_rfl) ?_
  obtain ⟨x3, hr4, h⟩ := h
  refine GT.take 0 rfl (by kernel_rfl) (by kernel_rfl) (by kernel_rfl) rfl (fun _ _ _ h => by obtain ⟨_, _, _, h, _⟩ := h; cases h) trivial rfl (OV.load (p := v0) rfl rfl hr4) ?_
  refine GT.eff 1 rfl (by kernel_rfl) rfl ?_
  refine GL.call h trivial rfl ok_strings_Builder_String (vs := [pv (some v1)]) rfl ?_
  rintro _ H7 ⟨r6, rfl, h⟩
  obtain ⟨hle5, h⟩ := h
  refine GT.back hle5 ?_
  refine GT.eff 2 rfl (by kernel_rfl) rfl ?_
  refine GL.buildSlice (cs := [sv r6]) h trivial rfl (vs := [(0, sv r6)]) rfl ⟨9, fun _ => by kernel_rfl⟩ ?_
  intro b9 H10 h
  obtain ⟨hle8, h⟩ := h
  refine GT.back hle8 ?_
  refine GT.eff 3 rfl (by kernel_rfl) rfl ?_
  refine GL.appendS (s := x3) (s2 := (Sl.of (some (b9, 0)) 1 1)) (zc := [sv []]) (bytes := 16) h trivial rfl rfl rfl ⟨⟨_, _, _, rfl, rfl, rfl, rfl, rfl, rfl⟩⟩ rfl ?_
  intro r12 H13 h
  obtain ⟨hle11, h⟩ := h
  refine GT.back hle11 ?_
  refine GT.done (by kernel_rfl) ?_
  show GL _ _ _ _ _ [_] _ _
  refine GL.store (p := v0) (v := slv r12) h trivial rfl rfl rfl rfl ?_
  intro H14 h
  refine GL.nil ?_
  refine GC.seq ?_
  refine GC.region ?_
  refine GL.call h trivial rfl ok_strings_Builder_Reset (vs := [pv (some v1)]) rfl ?_
  rintro _ H15 ⟨rfl, h⟩
  refine GL.nil ?_
  refine GC.region ?_
  refine GL.store (p := v2) (v := .int .i64 0) h trivial rfl rfl rfl rfl ?_
  intro H16 h
  exact GL.ends (fun _ _ hf hs => post_tmp0 rfl hf hs ⟨rfl, h⟩)

def sh_strings_Builder_String (C : Ctx) (p_b : Option (Nat × Nat)) (K : Str → Heap → Prop) (H : Heap) : Prop :=
  dr H fun Hs1 =>
 nck p_b fun p3 =>
 ldL Hs1 (p3.1, p3.2 + 1) fun x5 =>
 ((Sl.p x5 = none ∨ Sl.cap x5 ≠ 0) ∧ Sl.x x5 = none) ∧
 nck p_b fun p9 =>
 ldL Hs1 (p9.1, p9.2 + 1) fun x11 =>
 ust 5 (Sl.p x5) (Sl.len x11 : Int) (fun r14 H15 =>
 Heap.le Hs1 H15 ∧
 K r14 H15) H

theorem ad_strings_Builder_String (C : Ctx) (p_b : Option (Nat × Nat)) (K : Str → Heap → Prop) (H : Heap) (h : sh_strings_Builder_String C p_b K H) : c_strings_Builder_String C p_b K H := by
  refine Spec.enter Tryd.func18 rfl Tryd.ntmps18 rfl ?_
  refine GC.sub [(0, pv p_b)] ⟨rfl, trivial⟩ ?_
  refine GC.seq ?_
  refine GC.region ?_
  refine GL.val trivial rfl (OV.assign (v := sv []) rfl) ?_
  refine GL.nil ?_
  refine GC.seq ?_
  obtain ⟨Hs1, hle2, h⟩ := h
  refine GC.any (Hs := Hs1) (by kernel_rfl) hle2 ?_
  refine GA.take 0 rfl (by kernel_rfl) (by kernel_rfl) (by kernel_rfl) (fun _ _ _ h => by obtain ⟨_, _, _, h, _⟩ := h; cases h) trivial rfl (OV.move (v := pv p_b) rfl) ?_
  obtain ⟨p3, hp4, h⟩ := h
  refine GA.take 1 rfl (by kernel_rfl) (by kernel_rfl) (by kernel_rfl) (fun _ _ _ h => by obtain ⟨_, _, _, h, _⟩ := h; cases h) trivial rfl (OV.nilCheck (q := p_b) rfl hp4) ?_
  refine GA.take 2 rfl (by kernel_rfl) (by kernel_rfl) (by kernel_rfl) (fun _ _ _ h => by obtain ⟨_, _, _, h, _⟩ := h; cases h) trivial rfl (OV.fieldAddr (p := p3) rfl rfl) ?_
  obtain ⟨x5, hr6, h⟩ := h
  refine GA.take 3 rfl (by kernel_rfl) (by kernel_rfl) (by kernel_rfl) (fun _ _ _ h => by obtain ⟨_, _, _, h, _⟩ := h; cases h) trivial rfl (OV.load (p := (p3.1, p3.2 + 1)) rfl rfl hr6) ?_
  obtain ⟨⟨h7, h8⟩, h⟩ := h
  refine GA.take 4 rfl (by kernel_rfl) (by kernel_rfl) (by kernel_rfl) (fun _ _ _ h => by obtain ⟨_, _, _, h, _⟩ := h; cases h) trivial rfl (OV.usd (s := x5) h7 h8 rfl) ?_
  refine GA.take 5 rfl (by kernel_rfl) (by kernel_rfl) (by kernel_rfl) (fun _ _ _ h => by obtain ⟨_, _, _, h, _⟩ := h; cases h) trivial rfl (OV.move (v := pv p_b) rfl) ?_
  obtain ⟨p9, hp10, h⟩ := h
  refine GA.take 6 rfl (by kernel_rfl) (by kernel_rfl) (by kernel_rfl) (fun _ _ _ h => by obtain ⟨_, _, _, h, _⟩ := h; cases h) trivial rfl (OV.nilCheck (q := p_b) rfl hp10) ?_
  refine GA.take 7 rfl (by kernel_rfl) (by kernel_rfl) (by kernel_rfl) (fun _ _ _ h => by obtain ⟨_, _, _, h, _⟩ := h; cases h) trivial rfl (OV.fieldAddr (p := p9) rfl rfl) ?_
  obtain ⟨x11, hr12, h⟩ := h
  refine GA.take 8 rfl (by kernel_rfl) (by kernel_rfl) (by kernel_rfl) (fun _ _ _ h => by obtain ⟨_, _, _, h, _⟩ := h; cases h) trivial rfl (OV.load (p := (p9.1, p9.2 + 1)) rfl rfl hr12) ?_
  refine GA.take 9 rfl (by kernel_rfl) (by kernel_rfl) (by kernel_rfl) (fun _ _ _ h => by obtain ⟨_, _, _, h, _⟩ := h; cases h) trivial rfl (OV.lenSl (s := x11) rfl rfl) ?_
  refine GA.eff 10 rfl (by kernel_rfl) ?_
  refine GL.ust (e := 5) (p := (Sl.p x5)) (m := (Sl.len x11 : Int)) h trivial rfl rfl rfl rfl (by kernel_rfl) ?_
  intro r14 H15 h
  obtain ⟨hle13, h⟩ := h
  refine GA.back hle13 ?_
  refine GA.take 11 rfl (by kernel_rfl) (by kernel_rfl) (by kernel_rfl) (fun _ _ _ h => by obtain ⟨_, _, _, h, _⟩ := h; cases h) trivial rfl (OV.assign (v := sv r14) rfl) ?_
  refine GA.done (by kernel_rfl) ?_
  refine GL.nil ?_
  exact GC.ret (fun _ _ hf hs => post_tmp1 rfl rfl hf hs ⟨r14, rfl, h⟩)

def sh_strings_Builder_Reset (C : Ctx) (p_b : Option (Nat × Nat)) (K : Heap → Prop) (H : Heap) : Prop :=
  nck p_b fun p1 =>
 sttG (p1.1, p1.2 + 0) (pv none) (fun H3 =>
 nck p_b fun p4 =>
 sttG (p4.1, p4.2 + 1) (slv Sl.nil) (fun H6 =>
 K H6) H3) H

theorem ad_strings_Builder_Reset (C : Ctx) (p_b : Option (Nat × Nat)) (K : Heap → Prop) (H : Heap) (h : sh_strings_Builder_Reset C p_b K H) : c_strings_Builder_Reset C p_b K H := by
  refine Spec.enter Tryd.func19 rfl Tryd.ntmps19 rfl ?_
  refine GC.sub [(0, pv p_b)] ⟨rfl, trivial⟩ ?_
  refine GC.seq ?_
  refine GC.region ?_
  refine GL.val trivial rfl (OV.move (v := pv p_b) rfl) ?_
  obtain ⟨p1, hp2, h⟩ := h
  refine GL.val trivial rfl (OV.nilCheck (q := p_b) rfl hp2) ?_
  refine GL.val trivial rfl (OV.fieldAddr (p := p1) rfl rfl) ?_
  refine GL.storeG (p := (p1.1, p1.2 + 0)) (v := pv none) h trivial rfl rfl rfl rfl ?_
  intro H3 h
  refine GL.nil ?_
  refine GC.region ?_
  refine GL.val trivial rfl (OV.move (v := pv p_b) rfl) ?_
  obtain ⟨p4, hp5, h⟩ := h
  refine GL.val trivial rfl (OV.nilCheck (q := p_b) rfl hp5) ?_
  refine GL.val trivial rfl (OV.fieldAddr (p := p4) rfl rfl) ?_
  refine GL.storeG (p := (p4.1, p4.2 + 1)) (v := slv Sl.nil) h trivial rfl rfl rfl rfl ?_
  intro H6 h
  exact GL.ends (fun _ _ hf hs => post_tmp0 rfl hf hs ⟨rfl, h⟩)

def sh_csv_Read_2 (C : Ctx) (v0 : Nat × Nat) (v1 : Nat × Nat) (v2 : Nat × Nat) (v3 : Nat × Nat) (K : Heap → Prop) (H : Heap) : Prop :=
  ldV H v0 fun x1 =>
 callU Tryd.prog C x1 [] H (fun v H3 => v = .tuple #[] ∧
 ldL H3 v1 fun x4 =>
 ldL H3 v2 fun x6 =>
 apd ([slv Sl.nil]) 24 x4 ([slv x6]) 1 (fun r8 H9 =>
 st v1 (slv r8) (fun H10 =>
 st v2 (slv Sl.nil) (fun H11 =>
 st v3 (.bool false) (fun H12 =>
 K H12) H11) H10) H9) H3)

theorem ad_csv_Read_2 (C : Ctx) (v0 : Nat × Nat) (v1 : Nat × Nat) (v2 : Nat × Nat) (v3 : Nat × Nat) (K : Heap → Prop) (H : Heap) (h : sh_csv_Read_2 C v0 v1 v2 v3 K H) : c_csv_Read_2 C v0 v1 v2 v3 K H := by
  refine Spec.enter Tryd.func20 rfl Tryd.ntmps20 rfl ?_
  refine GC.sub [(0, pv (some v0)), (1, pv (some v1)), (2, pv (some v2)), (3, pv (some v3))] ⟨rfl, rfl, rfl, rfl, trivial⟩ ?_
  refine GC.seq ?_
  refine GC.region ?_
  obtain ⟨x1, hr2, h⟩ := h
  refine GL.val trivial rfl (OV.load (p := v0) rfl rfl hr2) ?_
  refine GL.callU (xv := x1) (vs := []) h trivial rfl rfl rfl ?_
  rintro _ H3 ⟨rfl, h⟩
  refine GL.nil ?_
  refine GC.seq ?_
  refine GC.region ?_
  obtain ⟨x4, hr5, h⟩ := h
  refine GL.val trivial rfl (OV.load (p := v1) rfl rfl hr5) ?_
  obtain ⟨x6, hr7, h⟩ := h
  refine GL.val trivial rfl (OV.load (p := v2) rfl rfl hr7) ?_
  refine GL.appendLit (s := x4) (ys := [slv x6]) (zc := [slv Sl.nil]) (bytes := 24) h trivial rfl (fun _ => trivial) rfl (fun _ => rfl) (fun _ => rfl) (vs := [(0, slv x6)]) rfl ⟨28, fun _ => by kernel_rfl⟩ ⟨⟨_, _, _, rfl, rfl, rfl, rfl, rfl, rfl⟩⟩ rfl rfl ?_
  intro _ r8 H9 h
  refine GL.store (p := v1) (v := slv r8) h trivial rfl rfl rfl rfl ?_
  intro H10 h
  refine GL.nil ?_
  refine GC.region ?_
  refine GL.store (p := v2) (v := slv Sl.nil) h trivial rfl rfl rfl rfl ?_
  intro H11 h
  refine GL.store (p := v3) (v := .bool false) h trivial rfl rfl rfl rfl ?_
  intro H12 h
  exact GL.ends (fun _ _ hf hs => post_tmp0 rfl hf hs ⟨rfl, h⟩)

def sh_strings_Builder_WriteByte (C : Ctx) (p_b : Option (Nat × Nat)) (p_c : Int) (K : Value → Heap → Prop) (H : Heap) : Prop :=
  c_strings_Builder_copyCheck C p_b (fun H1 =>
 nck p_b fun p2 =>
 ldL H1 (p2.1, p2.2 + 1) fun x4 =>
 apdG 5 ([.int .u8 0]) 1 x4 ([.int .u8 p_c]) 1 (fun r6 H7 =>
 nck p_b fun p8 =>
 sttG (p8.1, p8.2 + 1) (slv r6) (fun H10 =>
 K .nilIface H10) H7) H1) H

theorem ad_strings_Builder_WriteByte (C : Ctx) (p_b : Option (Nat × Nat)) (p_c : Int) (K : Value → Heap → Prop) (H : Heap) (h : sh_strings_Builder_WriteByte C p_b p_c K H) : c_strings_Builder_WriteByte C p_b p_c K H := by
  refine Spec.enter Tryd.func21 rfl Tryd.ntmps21 rfl ?_
  refine GC.sub [(0, pv p_b), (1, .int .u8 p_c)] ⟨rfl, rfl, trivial⟩ ?_
  refine GC.seq ?_
  refine GC.region ?_
  refine GL.val trivial rfl (OV.assign (v := .nilIface) rfl) ?_
  refine GL.nil ?_
  refine GC.seq ?_
  refine GC.region ?_
  refine GL.val trivial rfl (OV.move (v := pv p_b) rfl) ?_
  refine GL.call h trivial rfl ok_strings_Builder_copyCheck (vs := [pv p_b]) rfl ?_
  rintro _ H1 ⟨rfl, h⟩
  refine GL.nil ?_
  refine GC.seq ?_
  refine GC.region ?_
  refine GL.val trivial rfl (OV.move (v := pv p_b) rfl) ?_
  refine GL.val trivial rfl (OV.move (v := pv p_b) rfl) ?_
  obtain ⟨p2, hp3, h⟩ := h
  refine GL.val trivial rfl (OV.nilCheck (q := p_b) rfl hp3) ?_
  refine GL.val trivial rfl (OV.fieldAddr (p := p2) rfl rfl) ?_
  obtain ⟨x4, hr5, h⟩ := h
  refine GL.val trivial rfl (OV.load (p := (p2.1, p2.2 + 1)) rfl rfl hr5) ?_
  refine GL.val trivial rfl (OV.move (v := .int .u8 p_c) rfl) ?_
  refine GL.appendGLit (e := 5) (s := x4) (ys := [.int .u8 p_c]) (zc := [.int .u8 0]) (bytes := 1) h trivial rfl (fun _ => trivial) rfl (fun _ => rfl) (fun _ => rfl) (vs := [(0, .int .u8 p_c)]) rfl ⟨5, fun _ => by kernel_rfl⟩ ⟨⟨_, _, rfl, rfl, rfl, rfl, rfl, rfl⟩⟩ rfl rfl ?_
  intro _ r6 H7 h
  obtain ⟨p8, hp9, h⟩ := h
  refine GL.val trivial rfl (OV.nilCheck (q := p_b) rfl hp9) ?_
  refine GL.val trivial rfl (OV.fieldAddr (p := p8) rfl rfl) ?_
  refine GL.storeG (p := (p8.1, p8.2 + 1)) (v := slv r6) h trivial rfl rfl rfl rfl ?_
  intro H10 h
  refine GL.nil ?_
  refine GC.seq ?_
  refine GC.region ?_
  refine GL.val trivial rfl (OV.assign (v := .nilIface) rfl) ?_
  refine GL.nil ?_
  exact GC.ret (fun _ _ hf hs => post_tmp1 rfl rfl hf hs ⟨.nilIface, rfl, h⟩)

end Sx
