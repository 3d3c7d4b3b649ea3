/-
  Texts of this family, one behind the other: Sh1, Sh2.
-/
import Derived.Test.YtjafihegefejdaaGreatDoorAP1
import Derived.Test.YtjafihegefejdaaGreatDoorProg
noncomputable section
set_option linter.unusedVariables false
set_option linter.unusedSimpArgs false
set_option maxRecDepth 10000
namespace Sx
section
set_option maxRecDepth 100000
open Go Go.Proofs
structure Qa where
 Kind : Int
 N : Int
 S : Str
 L : Sl
def Qa.c (x : Qa) : List Value := [.int .u8 x.Kind, .int .i64 x.N, sv x.S, slv x.L]
def Qa.zero : Qa := ⟨0, 0, [], Sl.nil⟩
structure Qi where
 L : Sl
def Qi.c (x : Qi) : List Value := [slv x.L]
structure Qf where
 Kind : Int
 Row : Sl
 Places : Sl
def Qf.c (x : Qf) : List Value := [.int .u8 x.Kind, slv x.Row, slv x.Places]
def Qf.zero : Qf := ⟨0, Sl.nil, Sl.nil⟩
structure Qc where
 rows_ : Option Nat
 by_ : Option Nat
def Qc.c (x : Qc) : List Value := [mv x.rows_, mv x.by_]
structure Ql where
 places_ : Sl
 rows_ : Option Nat
def Ql.c (x : Ql) : List Value := [slv x.places_, mv x.rows_]
structure Qat where
 b_ : Sl
 turn_ : Int
def Qat.c (x : Qat) : List Value := [slv x.b_, .int .u8 x.turn_]
structure QhK where
 lo_ : Int
 hi_ : Int
theorem QeM : CallOk Tryz.prog 7 := ⟨⟨_, Tryz.func7, rfl, by decide +kernel⟩⟩
theorem Qjx : CallOk Tryz.prog 9 := ⟨⟨_, Tryz.func9, rfl, by decide +kernel⟩⟩
theorem Qbs : CallOk Tryz.prog 10 := ⟨⟨_, Tryz.func10, rfl, by decide +kernel⟩⟩
theorem Qfd : CallOk Tryz.prog 11 := ⟨⟨_, Tryz.func11, rfl, by decide +kernel⟩⟩
theorem QeN : CallOk Tryz.prog 12 := ⟨⟨_, Tryz.func12, rfl, by decide +kernel⟩⟩
theorem QfJ : CallOk Tryz.prog 13 := ⟨⟨_, Tryz.func13, rfl, by decide +kernel⟩⟩
theorem Qa5 : CallOk Tryz.prog 14 := ⟨⟨_, Tryz.func14, rfl, by decide +kernel⟩⟩
theorem QcB : CallOk Tryz.prog 15 := ⟨⟨_, Tryz.func15, rfl, by decide +kernel⟩⟩
theorem QfE : CallOk Tryz.prog 16 := ⟨⟨_, Tryz.func16, rfl, by decide +kernel⟩⟩
theorem Qcz : CallOk Tryz.prog 17 := ⟨⟨_, Tryz.func17, rfl, by decide +kernel⟩⟩
theorem QbE : CallOk Tryz.prog 18 := ⟨⟨_, Tryz.func18, rfl, by decide +kernel⟩⟩
theorem Qcy : CallOk Tryz.prog 19 := ⟨⟨_, Tryz.func19, rfl, by decide +kernel⟩⟩
theorem QfF : CallOk Tryz.prog 20 := ⟨⟨_, Tryz.func20, rfl, by decide +kernel⟩⟩
theorem Qfc : CallOk Tryz.prog 24 := ⟨⟨_, Tryz.func24, rfl, by decide +kernel⟩⟩
theorem Qh1 : CallOk Tryz.prog 25 := ⟨⟨_, Tryz.func25, rfl, by decide +kernel⟩⟩
theorem QcA : CallOk Tryz.prog 26 := ⟨⟨_, Tryz.func26, rfl, by decide +kernel⟩⟩
theorem QfN : CallOk Tryz.prog 27 := ⟨⟨_, Tryz.func27, rfl, by decide +kernel⟩⟩
theorem QfM : CallOk Tryz.prog 28 := ⟨⟨_, Tryz.func28, rfl, by decide +kernel⟩⟩
theorem Qfe : CallOk Tryz.prog 29 := ⟨⟨_, Tryz.func29, rfl, by decide +kernel⟩⟩
theorem QbI : CallOk Tryz.prog 30 := ⟨⟨_, Tryz.func30, rfl, by decide +kernel⟩⟩
theorem QcC : CallOk Tryz.prog 31 := ⟨⟨_, Tryz.func31, rfl, by decide +kernel⟩⟩
theorem QbO : CallOk Tryz.prog 32 := ⟨⟨_, Tryz.func32, rfl, by decide +kernel⟩⟩
theorem Qc4 : CallOk Tryz.prog 33 := ⟨⟨_, Tryz.func33, rfl, by decide +kernel⟩⟩
theorem Qeh : CallOk Tryz.prog 34 := ⟨⟨_, Tryz.func34, rfl, by decide +kernel⟩⟩
theorem Qht : CallOk Tryz.prog 35 := ⟨⟨_, Tryz.func35, rfl, by decide +kernel⟩⟩
theorem Qhu : CallOk Tryz.prog 36 := ⟨⟨_, Tryz.func36, rfl, by decide +kernel⟩⟩
theorem QdL : CallOk Tryz.prog 37 := ⟨⟨_, Tryz.func37, rfl, by decide +kernel⟩⟩
theorem QfG : CallOk Tryz.prog 38 := ⟨⟨_, Tryz.func38, rfl, by decide +kernel⟩⟩
theorem QeO : CallOk Tryz.prog 39 := ⟨⟨_, Tryz.func39, rfl, by decide +kernel⟩⟩
theorem QfL : CallOk Tryz.prog 40 := ⟨⟨_, Tryz.func40, rfl, by decide +kernel⟩⟩
theorem QfK : CallOk Tryz.prog 41 := ⟨⟨_, Tryz.func41, rfl, by decide +kernel⟩⟩
theorem QeL : CallOk Tryz.prog 42 := ⟨⟨_, Tryz.func42, rfl, by decide +kernel⟩⟩
theorem QaF : CallOk Tryz.prog 43 := ⟨⟨_, Tryz.func43, rfl, by decide +kernel⟩⟩
theorem QdJ : CallOk Tryz.prog 44 := ⟨⟨_, Tryz.func44, rfl, by decide +kernel⟩⟩
theorem Qc9 : CallOk Tryz.prog 45 := ⟨⟨_, Tryz.func45, rfl, by decide +kernel⟩⟩
theorem QiW : CallOk Tryz.prog 46 := ⟨⟨_, Tryz.func46, rfl, by decide +kernel⟩⟩
theorem Qjy : CallOk Tryz.prog 47 := ⟨⟨_, Tryz.func47, rfl, by decide +kernel⟩⟩
theorem QdM : CallOk Tryz.prog 49 := ⟨⟨_, Tryz.func49, rfl, by decide +kernel⟩⟩
theorem QI : CallOk Tryz.prog 50 := ⟨⟨_, Tryz.func50, rfl, by decide +kernel⟩⟩
theorem Qc7 : CallOk Tryz.prog 51 := ⟨⟨_, Tryz.func51, rfl, by decide +kernel⟩⟩
theorem QaV : CallOk Tryz.prog 52 := ⟨⟨_, Tryz.func52, rfl, by decide +kernel⟩⟩
theorem QgQ : CallOk Tryz.prog 53 := ⟨⟨_, Tryz.func53, rfl, by decide +kernel⟩⟩
theorem Qhs : CallOk Tryz.prog 54 := ⟨⟨_, Tryz.func54, rfl, by decide +kernel⟩⟩
theorem Qh2 : CallOk Tryz.prog 55 := ⟨⟨_, Tryz.func55, rfl, by decide +kernel⟩⟩
theorem Qhr : CallOk Tryz.prog 56 := ⟨⟨_, Tryz.func56, rfl, by decide +kernel⟩⟩
theorem QgP : CallOk Tryz.prog 58 := ⟨⟨_, Tryz.func58, rfl, by decide +kernel⟩⟩
theorem QeP : CallOk Tryz.prog 59 := ⟨⟨_, Tryz.func59, rfl, by decide +kernel⟩⟩
theorem QcD : CallOk Tryz.prog 60 := ⟨⟨_, Tryz.func60, rfl, by decide +kernel⟩⟩
theorem Qh0 : CallOk Tryz.prog 61 := ⟨⟨_, Tryz.func61, rfl, by decide +kernel⟩⟩
theorem Qdg : CallOk Tryz.prog 62 := ⟨⟨_, Tryz.func62, rfl, by decide +kernel⟩⟩
theorem QaA : CallOk Tryz.prog 64 := ⟨⟨_, Tryz.func64, rfl, by decide +kernel⟩⟩
theorem QdN : CallOk Tryz.prog 65 := ⟨⟨_, Tryz.func65, rfl, by decide +kernel⟩⟩
theorem Qgv : CallOk Tryz.prog 68 := ⟨⟨_, Tryz.func68, rfl, by decide +kernel⟩⟩
theorem QiY : CallOk Tryz.prog 69 := ⟨⟨_, Tryz.func69, rfl, by decide +kernel⟩⟩
theorem QfQ : CallOk Tryz.prog 70 := ⟨⟨_, Tryz.func70, rfl, by decide +kernel⟩⟩
theorem QdI : CallOk Tryz.prog 71 := ⟨⟨_, Tryz.func71, rfl, by decide +kernel⟩⟩
theorem QiX : CallOk Tryz.prog 72 := ⟨⟨_, Tryz.func72, rfl, by decide +kernel⟩⟩
theorem QdK : CallOk Tryz.prog 73 := ⟨⟨_, Tryz.func73, rfl, by decide +kernel⟩⟩
theorem Qhw : CallOk Tryz.prog 74 := ⟨⟨_, Tryz.func74, rfl, by decide +kernel⟩⟩
theorem Qh3 : CallOk Tryz.prog 75 := ⟨⟨_, Tryz.func75, rfl, by decide +kernel⟩⟩
theorem QfP : CallOk Tryz.prog 76 := ⟨⟨_, Tryz.func76, rfl, by decide +kernel⟩⟩
theorem Qc6 : CallOk Tryz.prog 77 := ⟨⟨_, Tryz.func77, rfl, by decide +kernel⟩⟩
theorem Qgj : CallOk Tryz.prog 78 := ⟨⟨_, Tryz.func78, rfl, by decide +kernel⟩⟩
theorem Qgk : CallOk Tryz.prog 79 := ⟨⟨_, Tryz.func79, rfl, by decide +kernel⟩⟩
theorem Qhp : CallOk Tryz.prog 80 := ⟨⟨_, Tryz.func80, rfl, by decide +kernel⟩⟩
theorem Qgl : CallOk Tryz.prog 81 := ⟨⟨_, Tryz.func81, rfl, by decide +kernel⟩⟩
theorem QdY : CallOk Tryz.prog 82 := ⟨⟨_, Tryz.func82, rfl, by decide +kernel⟩⟩
theorem QgO : CallOk Tryz.prog 83 := ⟨⟨_, Tryz.func83, rfl, by decide +kernel⟩⟩
theorem Qq : CallOk Tryz.prog 84 := ⟨⟨_, Tryz.func84, rfl, by decide +kernel⟩⟩
theorem QfH : CallOk Tryz.prog 100 := ⟨⟨_, Tryz.func100, rfl, by decide +kernel⟩⟩
theorem Qar : CallOk Tryz.prog 101 := ⟨⟨_, Tryz.func101, rfl, by decide +kernel⟩⟩
theorem Qh4 : CallOk Tryz.prog 102 := ⟨⟨_, Tryz.func102, rfl, by decide +kernel⟩⟩
theorem QF : CallOk Tryz.prog 103 := ⟨⟨_, Tryz.func103, rfl, by decide +kernel⟩⟩
theorem Qhx : CallOk Tryz.prog 104 := ⟨⟨_, Tryz.func104, rfl, by decide +kernel⟩⟩
theorem Qgm : CallOk Tryz.prog 105 := ⟨⟨_, Tryz.func105, rfl, by decide +kernel⟩⟩
theorem Qei : CallOk Tryz.prog 106 := ⟨⟨_, Tryz.func106, rfl, by decide +kernel⟩⟩
theorem Qjz : CallOk Tryz.prog 107 := ⟨⟨_, Tryz.func107, rfl, by decide +kernel⟩⟩
theorem QaU : CallOk Tryz.prog 108 := ⟨⟨_, Tryz.func108, rfl, by decide +kernel⟩⟩
theorem Qej : CallOk Tryz.prog 109 := ⟨⟨_, Tryz.func109, rfl, by decide +kernel⟩⟩
theorem Qhv : CallOk Tryz.prog 110 := ⟨⟨_, Tryz.func110, rfl, by decide +kernel⟩⟩
theorem Qcg : CallOk Tryz.prog 111 := ⟨⟨_, Tryz.func111, rfl, by decide +kernel⟩⟩
theorem Qhq : CallOk Tryz.prog 112 := ⟨⟨_, Tryz.func112, rfl, by decide +kernel⟩⟩
theorem QeJ : CallOk Tryz.prog 113 := ⟨⟨_, Tryz.func113, rfl, by decide +kernel⟩⟩
theorem Qa4 : CallOk Tryz.prog 114 := ⟨⟨_, Tryz.func114, rfl, by decide +kernel⟩⟩
theorem Qcx : CallOk Tryz.prog 115 := ⟨⟨_, Tryz.func115, rfl, by decide +kernel⟩⟩
theorem QdZ : CallOk Tryz.prog 116 := ⟨⟨_, Tryz.func116, rfl, by decide +kernel⟩⟩
theorem QaJ : CallOk Tryz.prog 126 := ⟨⟨_, Tryz.func126, rfl, by decide +kernel⟩⟩
theorem QeI : CallOk Tryz.prog 127 := ⟨⟨_, Tryz.func127, rfl, by decide +kernel⟩⟩
theorem QfO : CallOk Tryz.prog 128 := ⟨⟨_, Tryz.func128, rfl, by decide +kernel⟩⟩
theorem QaI : CallOk Tryz.prog 129 := ⟨⟨_, Tryz.func129, rfl, by decide +kernel⟩⟩
theorem QfD : CallOk Tryz.prog 130 := ⟨⟨_, Tryz.func130, rfl, by decide +kernel⟩⟩
theorem QeH : CallOk Tryz.prog 131 := ⟨⟨_, Tryz.func131, rfl, by decide +kernel⟩⟩
theorem QfI : CallOk Tryz.prog 132 := ⟨⟨_, Tryz.func132, rfl, by decide +kernel⟩⟩
theorem Qc5 : CallOk Tryz.prog 133 := ⟨⟨_, Tryz.func133, rfl, by decide +kernel⟩⟩
theorem Qbi : CallOk Tryz.prog 134 := ⟨⟨_, Tryz.func134, rfl, by decide +kernel⟩⟩
theorem QdP : CallOk Tryz.prog 135 := ⟨⟨_, Tryz.func135, rfl, by decide +kernel⟩⟩
theorem Qdi : CallOk Tryz.prog 136 := ⟨⟨_, Tryz.func136, rfl, by decide +kernel⟩⟩
theorem QdO : CallOk Tryz.prog 137 := ⟨⟨_, Tryz.func137, rfl, by decide +kernel⟩⟩
theorem Qdh : CallOk Tryz.prog 138 := ⟨⟨_, Tryz.func138, rfl, by decide +kernel⟩⟩
theorem Qc8 : CallOk Tryz.prog 139 := ⟨⟨_, Tryz.func139, rfl, by decide +kernel⟩⟩
theorem Qcs : CallOk Tryz.prog 140 := ⟨⟨_, Tryz.func140, rfl, by decide +kernel⟩⟩
theorem Qch : CallOk Tryz.prog 141 := ⟨⟨_, Tryz.func141, rfl, by decide +kernel⟩⟩
theorem QbV : CallOk Tryz.prog 142 := ⟨⟨_, Tryz.func142, rfl, by decide +kernel⟩⟩
theorem Qbt : CallOk Tryz.prog 143 := ⟨⟨_, Tryz.func143, rfl, by decide +kernel⟩⟩
theorem Qcw : CallOk Tryz.prog 147 := ⟨⟨_, Tryz.func147, rfl, by decide +kernel⟩⟩
theorem QbW : CallOk Tryz.prog 148 := ⟨⟨_, Tryz.func148, rfl, by decide +kernel⟩⟩
theorem QfC : CallOk Tryz.prog 149 := ⟨⟨_, Tryz.func149, rfl, by decide +kernel⟩⟩
theorem Qce : CallOk Tryz.prog 150 := ⟨⟨_, Tryz.func150, rfl, by decide +kernel⟩⟩
theorem Qcv : CallOk Tryz.prog 151 := ⟨⟨_, Tryz.func151, rfl, by decide +kernel⟩⟩
theorem QA : CallOk Tryz.prog 152 := ⟨⟨_, Tryz.func152, rfl, by decide +kernel⟩⟩
theorem QaB : CallOk Tryz.prog 153 := ⟨⟨_, Tryz.func153, rfl, by decide +kernel⟩⟩
theorem Q6 : CallOk Tryz.prog 157 := ⟨⟨_, Tryz.func157, rfl, by decide +kernel⟩⟩
theorem Qcf : CallOk Tryz.prog 159 := ⟨⟨_, Tryz.func159, rfl, by decide +kernel⟩⟩
theorem Qaw : CallOk Tryz.prog 160 := ⟨⟨_, Tryz.func160, rfl, by decide +kernel⟩⟩
theorem QdX : CallOk Tryz.prog 161 := ⟨⟨_, Tryz.func161, rfl, by decide +kernel⟩⟩
theorem Qc3 : ExtOk Tryz.prog 89 Extern.AbiNoEscape.same := ⟨⟨_, Tryz.func89, by kernel_rfl, by kernel_rfl, by kernel_rfl, by kernel_rfl⟩⟩
theorem QbD : ExtOk Tryz.prog 90 (Extern.BytealgMakeNoZero.makeNoZero #[3] #[79]) := ⟨⟨_, Tryz.func90, by kernel_rfl, by kernel_rfl, by kernel_rfl, by kernel_rfl⟩⟩
theorem QaZ : ExtOk Tryz.prog 165 Extern.BytealgIndexByte.indexByte := ⟨⟨_, Tryz.func165, by kernel_rfl, by kernel_rfl, by kernel_rfl, by kernel_rfl⟩⟩
abbrev tyB : TypeId := 84
abbrev tyE : TypeId := 5
abbrev Bd (bs : Str) : GO := .bld tyB tyE bs
def Q1 (C : Ctx) (p_l : Sl) (K : Bool → Heap → Prop) (H : Heap) : Prop :=
 Spec Tryz.prog C 6 [slv p_l] H (fun v H2 => ∃ (r0 : Bool), v = .bool r0 ∧ K r0 H2)
def QO (C : Ctx) (p_l : Sl) (K : Int → Heap → Prop) (H : Heap) : Prop :=
 Spec Tryz.prog C 7 [slv p_l] H (fun v H2 => ∃ (r0 : Int), v = .int .i64 r0 ∧ K r0 H2)
theorem QO.gh {C : Ctx} {p_l : Sl} {K : Int → Heap → Prop} {H : Heap} (h : QO C p_l (fun r0 H2 => ∃ H0, Gh C H2 H0 ∧ K r0 H0) H) : QO C p_l K H :=
 Spec.gh (Spec.mono h fun _ H2 ⟨r0, hv, H0, hg, hk⟩ => ⟨H0, hg, r0, hv, hk⟩)
def Qdz (C : Ctx) (K : Option (Nat × Nat) → Heap → Prop) (H : Heap) : Prop :=
 Spec Tryz.prog C 9 [] H (fun v H2 => ∃ (r0 : Option (Nat × Nat)), v = pv r0 ∧ K r0 H2)
def Qr (C : Ctx) (p_x : Option (Nat × Nat)) (p_l : Sl) (K : Bool → Int → Heap → Prop) (H : Heap) : Prop :=
 Spec Tryz.prog C 10 [pv p_x, slv p_l] H (fun v H2 => ∃ (r0 : Bool) (r1 : Int), v = .tuple #[.bool r0, .int .i64 r1] ∧ K r0 r1 H2)
def QK (C : Ctx) (p_x : Option (Nat × Nat)) (p_places : Sl) (p_values : Sl) (K : Sl → Int → Heap → Prop) (H : Heap) : Prop :=
 Spec Tryz.prog C 11 [pv p_x, slv p_places, slv p_values] H (fun v H2 => ∃ (r0 : Sl) (r1 : Int), v = .tuple #[slv r0, .int .i64 r1] ∧ K r0 r1 H2)
def Q2 (C : Ctx) (p_v : Qa) (K : Int → Heap → Prop) (H : Heap) : Prop :=
 Spec Tryz.prog C 12 [.agg (Qa.c p_v).toArray] H (fun v H2 => ∃ (r0 : Int), v = .int .i64 r0 ∧ K r0 H2)
theorem Q2.gh {C : Ctx} {p_v : Qa} {K : Int → Heap → Prop} {H : Heap} (h : Q2 C p_v (fun r0 H2 => ∃ H0, Gh C H2 H0 ∧ K r0 H0) H) : Q2 C p_v K H :=
 Spec.gh (Spec.mono h fun _ H2 ⟨r0, hv, H0, hg, hk⟩ => ⟨H0, hg, r0, hv, hk⟩)
def QT (C : Ctx) (p_a : Qa) (p_b : Qa) (K : Bool → Heap → Prop) (H : Heap) : Prop :=
 Spec Tryz.prog C 13 [.agg (Qa.c p_a).toArray, .agg (Qa.c p_b).toArray] H (fun v H2 => ∃ (r0 : Bool), v = .bool r0 ∧ K r0 H2)
theorem QT.gh {C : Ctx} {p_a : Qa} {p_b : Qa} {K : Bool → Heap → Prop} {H : Heap} (h : QT C p_a p_b (fun r0 H2 => ∃ H0, Gh C H2 H0 ∧ K r0 H0) H) : QT C p_a p_b K H :=
 Spec.gh (Spec.mono h fun _ H2 ⟨r0, hv, H0, hg, hk⟩ => ⟨H0, hg, r0, hv, hk⟩)
def QU (C : Ctx) (p_a : Sl) (p_b : Sl) (K : Bool → Heap → Prop) (H : Heap) : Prop :=
 Spec Tryz.prog C 14 [slv p_a, slv p_b] H (fun v H2 => ∃ (r0 : Bool), v = .bool r0 ∧ K r0 H2)
def QbC (C : Ctx) (p_l : Sl) (K : Bool → Heap → Prop) (H : Heap) : Prop :=
 Spec Tryz.prog C 15 [slv p_l] H (fun v H2 => ∃ (r0 : Bool), v = .bool r0 ∧ K r0 H2)
def QaP (C : Ctx) (p_x : Option (Nat × Nat)) (p_l : Sl) (K : Bool → Heap → Prop) (H : Heap) : Prop :=
 Spec Tryz.prog C 16 [pv p_x, slv p_l] H (fun v H2 => ∃ (r0 : Bool), v = .bool r0 ∧ K r0 H2)
def QG (C : Ctx) (p_x : Option (Nat × Nat)) (p_l : Sl) (K : Bool → Int → Heap → Prop) (H : Heap) : Prop :=
 Spec Tryz.prog C 17 [pv p_x, slv p_l] H (fun v H2 => ∃ (r0 : Bool) (r1 : Int), v = .tuple #[.bool r0, .int .i64 r1] ∧ K r0 r1 H2)
def QY (C : Ctx) (p_a : Sl) (p_b : Sl) (K : Bool → Heap → Prop) (H : Heap) : Prop :=
 Spec Tryz.prog C 18 [slv p_a, slv p_b] H (fun v H2 => ∃ (r0 : Bool), v = .bool r0 ∧ K r0 H2)
def Qaf (C : Ctx) (p_x : Option (Nat × Nat)) (K : Sl → Heap → Prop) (H : Heap) : Prop :=
 Spec Tryz.prog C 19 [pv p_x] H (fun v H2 => ∃ (r0 : Sl), v = slv r0 ∧ K r0 H2)
def QaQ (C : Ctx) (p_x : Option (Nat × Nat)) (K : Int → Heap → Prop) (H : Heap) : Prop :=
 Spec Tryz.prog C 20 [pv p_x] H (fun v H2 => ∃ (r0 : Int), v = .int .i64 r0 ∧ K r0 H2)
def Qay (C : Ctx) (p_x : Option (Nat × Nat)) (K : Option (Nat × Nat) → Heap → Prop) (H : Heap) : Prop :=
 Spec Tryz.prog C 24 [pv p_x] H (fun v H2 => ∃ (r0 : Option (Nat × Nat)), v = pv r0 ∧ K r0 H2)
def QdA (C : Ctx) (p_l : Sl) (K : Bool → Heap → Prop) (H : Heap) : Prop :=
 Spec Tryz.prog C 25 [slv p_l] H (fun v H2 => ∃ (r0 : Bool), v = .bool r0 ∧ K r0 H2)
def QaH (C : Ctx) (p_l : Sl) (K : Sl → Heap → Prop) (H : Heap) : Prop :=
 Spec Tryz.prog C 26 [slv p_l] H (fun v H2 => ∃ (r0 : Sl), v = slv r0 ∧ K r0 H2)
def QaT (C : Ctx) (p_x : Option (Nat × Nat)) (p_row : Sl) (K : Bool → Int → Heap → Prop) (H : Heap) : Prop :=
 Spec Tryz.prog C 27 [pv p_x, slv p_row] H (fun v H2 => ∃ (r0 : Bool) (r1 : Int), v = .tuple #[.bool r0, .int .i64 r1] ∧ K r0 r1 H2)
def QaR (C : Ctx) (p_x : Option (Nat × Nat)) (p_row : Sl) (K : Bool → Int → Heap → Prop) (H : Heap) : Prop :=
 Spec Tryz.prog C 28 [pv p_x, slv p_row] H (fun v H2 => ∃ (r0 : Bool) (r1 : Int), v = .tuple #[.bool r0, .int .i64 r1] ∧ K r0 r1 H2)
def Qaz (C : Ctx) (p_x : Option (Nat × Nat)) (p_places : Sl) (p_values : Sl) (K : Sl → Int → Heap → Prop) (H : Heap) : Prop :=
 Spec Tryz.prog C 29 [pv p_x, slv p_places, slv p_values] H (fun v H2 => ∃ (r0 : Sl) (r1 : Int), v = .tuple #[slv r0, .int .i64 r1] ∧ K r0 r1 H2)
def Qw (C : Ctx) (p_l : Sl) (K : Heap → Prop) (H : Heap) : Prop :=
 Spec Tryz.prog C 30 [slv p_l] H (fun v H2 => v = .tuple #[] ∧ K H2)
theorem Qw.gh {C : Ctx} {p_l : Sl} {K : Heap → Prop} {H : Heap} (h : Qw C p_l (fun  H2 => ∃ H0, Gh C H2 H0 ∧ K  H0) H) : Qw C p_l K H :=
 Spec.gh (Spec.mono h fun _ H2 ⟨hv, H0, hg, hk⟩ => ⟨H0, hg, hv, hk⟩)
def QaS (C : Ctx) (p_x : Option (Nat × Nat)) (p_row : Sl) (K : Bool → Heap → Prop) (H : Heap) : Prop :=
 Spec Tryz.prog C 31 [pv p_x, slv p_row] H (fun v H2 => ∃ (r0 : Bool), v = .bool r0 ∧ K r0 H2)
def Qa8 (C : Ctx) (p_l : Sl) (K : Str → Bool → Heap → Prop) (H : Heap) : Prop :=
 Spec Tryz.prog C 32 [slv p_l] H (fun v H2 => ∃ (r0 : Str) (r1 : Bool), v = .tuple #[sv r0, .bool r1] ∧ K r0 r1 H2)
def QZ (C : Ctx) (p_l : Sl) (K : Sl → Heap → Prop) (H : Heap) : Prop :=
 Spec Tryz.prog C 33 [slv p_l] H (fun v H2 => ∃ (r0 : Sl), v = slv r0 ∧ K r0 H2)
def Qab (C : Ctx) (p_b : Option (Nat × Nat)) (p_k : Str) (p_l : Sl) (K : Heap → Prop) (H : Heap) : Prop :=
 Spec Tryz.prog C 34 [pv p_b, sv p_k, slv p_l] H (fun v H2 => v = .tuple #[] ∧ K H2)
def Qau (C : Ctx) (p_i : Int) (K : Str → Heap → Prop) (H : Heap) : Prop :=
 Spec Tryz.prog C 35 [.int .i64 p_i] H (fun v H2 => ∃ (r0 : Str), v = sv r0 ∧ K r0 H2)
theorem Qau.gh {C : Ctx} {p_i : Int} {K : Str → Heap → Prop} {H : Heap} (h : Qau C p_i (fun r0 H2 => ∃ H0, Gh C H2 H0 ∧ K r0 H0) H) : Qau C p_i K H :=
 Spec.gh (Spec.mono h fun _ H2 ⟨r0, hv, H0, hg, hk⟩ => ⟨H0, hg, r0, hv, hk⟩)
def Qc0 (C : Ctx) (p_elems : Sl) (p_sep : Str) (K : Str → Heap → Prop) (H : Heap) : Prop :=
 Spec Tryz.prog C 36 [slv p_elems, sv p_sep] H (fun v H2 => ∃ (r0 : Str), v = sv r0 ∧ K r0 H2)
def QW (C : Ctx) (p_s : Sl) (K : Sl → Heap → Prop) (H : Heap) : Prop :=
 Spec Tryz.prog C 37 [slv p_s] H (fun v H2 => ∃ (r0 : Sl), v = slv r0 ∧ K r0 H2)
def Qai (C : Ctx) (p_r : Option Nat) (K : Sl → Heap → Prop) (H : Heap) : Prop :=
 Spec Tryz.prog C 38 [mv p_r] H (fun v H2 => ∃ (r0 : Sl), v = slv r0 ∧ K r0 H2)
def QP (C : Ctx) (p_v : Qa) (K : Int → Heap → Prop) (H : Heap) : Prop :=
 Spec Tryz.prog C 39 [.agg (Qa.c p_v).toArray] H (fun v H2 => ∃ (r0 : Int), v = .int .i64 r0 ∧ K r0 H2)
theorem QP.gh {C : Ctx} {p_v : Qa} {K : Int → Heap → Prop} {H : Heap} (h : QP C p_v (fun r0 H2 => ∃ H0, Gh C H2 H0 ∧ K r0 H0) H) : QP C p_v K H :=
 Spec.gh (Spec.mono h fun _ H2 ⟨r0, hv, H0, hg, hk⟩ => ⟨H0, hg, r0, hv, hk⟩)
def Q4 (C : Ctx) (p_v : Qa) (K : Bool → Heap → Prop) (H : Heap) : Prop :=
 Spec Tryz.prog C 40 [.agg (Qa.c p_v).toArray] H (fun v H2 => ∃ (r0 : Bool), v = .bool r0 ∧ K r0 H2)
theorem Q4.gh {C : Ctx} {p_v : Qa} {K : Bool → Heap → Prop} {H : Heap} (h : Q4 C p_v (fun r0 H2 => ∃ H0, Gh C H2 H0 ∧ K r0 H0) H) : Q4 C p_v K H :=
 Spec.gh (Spec.mono h fun _ H2 ⟨r0, hv, H0, hg, hk⟩ => ⟨H0, hg, r0, hv, hk⟩)
def Q3 (C : Ctx) (p_v : Qa) (K : Bool → Heap → Prop) (H : Heap) : Prop :=
 Spec Tryz.prog C 41 [.agg (Qa.c p_v).toArray] H (fun v H2 => ∃ (r0 : Bool), v = .bool r0 ∧ K r0 H2)
theorem Q3.gh {C : Ctx} {p_v : Qa} {K : Bool → Heap → Prop} {H : Heap} (h : Q3 C p_v (fun r0 H2 => ∃ H0, Gh C H2 H0 ∧ K r0 H0) H) : Q3 C p_v K H :=
 Spec.gh (Spec.mono h fun _ H2 ⟨r0, hv, H0, hg, hk⟩ => ⟨H0, hg, r0, hv, hk⟩)
def Qbp (C : Ctx) (p_b : Option (Nat × Nat)) (p_l : Sl) (K : Str → Bool → Heap → Prop) (H : Heap) : Prop :=
 Spec Tryz.prog C 42 [pv p_b, slv p_l] H (fun v H2 => ∃ (r0 : Str) (r1 : Bool), v = .tuple #[sv r0, .bool r1] ∧ K r0 r1 H2)
def QH (C : Ctx) (p_m : Option Nat) (K : Option Nat → Heap → Prop) (H : Heap) : Prop :=
 Spec Tryz.prog C 43 [mv p_m] H (fun v H2 => ∃ (r0 : Option Nat), v = mv r0 ∧ K r0 H2)
def QbM (C : Ctx) (p_l : Sl) (K : Sl → Heap → Prop) (H : Heap) : Prop :=
 Spec Tryz.prog C 44 [slv p_l] H (fun v H2 => ∃ (r0 : Sl), v = slv r0 ∧ K r0 H2)
def QQ (C : Ctx) (p_v : Qa) (K : Int → Heap → Prop) (H : Heap) : Prop :=
 Spec Tryz.prog C 45 [.agg (Qa.c p_v).toArray] H (fun v H2 => ∃ (r0 : Int), v = .int .i64 r0 ∧ K r0 H2)
theorem QQ.gh {C : Ctx} {p_v : Qa} {K : Int → Heap → Prop} {H : Heap} (h : QQ C p_v (fun r0 H2 => ∃ H0, Gh C H2 H0 ∧ K r0 H0) H) : QQ C p_v K H :=
 Spec.gh (Spec.mono h fun _ H2 ⟨r0, hv, H0, hg, hk⟩ => ⟨H0, hg, r0, hv, hk⟩)
def Qec (C : Ctx) (p_b : Sl) (p_v : Qa) (K : Sl → Heap → Prop) (H : Heap) : Prop :=
 Spec Tryz.prog C 46 [slv p_b, .agg (Qa.c p_v).toArray] H (fun v H2 => ∃ (r0 : Sl), v = slv r0 ∧ K r0 H2)
def Qa9 (C : Ctx) (p_v : Qa) (K : Qa → Heap → Prop) (H : Heap) : Prop :=
 Spec Tryz.prog C 47 [.agg (Qa.c p_v).toArray] H (fun v H2 => ∃ (r0 : Qa), v = .agg (Qa.c r0).toArray ∧ K r0 H2)
theorem Qa9.gh {C : Ctx} {p_v : Qa} {K : Qa → Heap → Prop} {H : Heap} (h : Qa9 C p_v (fun r0 H2 => ∃ H0, Gh C H2 H0 ∧ K r0 H0) H) : Qa9 C p_v K H :=
 Spec.gh (Spec.mono h fun _ H2 ⟨r0, hv, H0, hg, hk⟩ => ⟨H0, hg, r0, hv, hk⟩)
def Qo (C : Ctx) (p_b : Option (Nat × Nat)) (p_n : Int) (K : Heap → Prop) (H : Heap) : Prop :=
 Spec Tryz.prog C 49 [pv p_b, .int .i64 p_n] H (fun v H2 => v = .tuple #[] ∧ K H2)
theorem Qo.gh {C : Ctx} {p_b : Option (Nat × Nat)} {p_n : Int} {K : Heap → Prop} {H : Heap} (h : Qo C p_b p_n (fun  H2 => ∃ H0, Gh C H2 H0 ∧ K  H0) H) : Qo C p_b p_n K H :=
 Spec.gh (Spec.mono h fun _ H2 ⟨hv, H0, hg, hk⟩ => ⟨H0, hg, hv, hk⟩)
def Qe (C : Ctx) (p_b : Option (Nat × Nat)) (p_s : Str) (K : Int → Value → Heap → Prop) (H : Heap) : Prop :=
 Spec Tryz.prog C 50 [pv p_b, sv p_s] H (fun v H2 => ∃ (r0 : Int) (r1 : Value), v = .tuple #[.int .i64 r0, r1] ∧ K r0 r1 H2)
theorem Qe.gh {C : Ctx} {p_b : Option (Nat × Nat)} {p_s : Str} {K : Int → Value → Heap → Prop} {H : Heap} (h : Qe C p_b p_s (fun r0 r1 H2 => ∃ H0, Gh C H2 H0 ∧ K r0 r1 H0) H) : Qe C p_b p_s K H :=
 Spec.gh (Spec.mono h fun _ H2 ⟨r0, r1, hv, H0, hg, hk⟩ => ⟨H0, hg, r0, r1, hv, hk⟩)
def Qj (C : Ctx) (p_b : Option (Nat × Nat)) (K : Str → Heap → Prop) (H : Heap) : Prop :=
 Spec Tryz.prog C 51 [pv p_b] H (fun v H2 => ∃ (r0 : Str), v = sv r0 ∧ K r0 H2)
theorem Qj.gh {C : Ctx} {p_b : Option (Nat × Nat)} {K : Str → Heap → Prop} {H : Heap} (h : Qj C p_b (fun r0 H2 => ∃ H0, Gh C H2 H0 ∧ K r0 H0) H) : Qj C p_b K H :=
 Spec.gh (Spec.mono h fun _ H2 ⟨r0, hv, H0, hg, hk⟩ => ⟨H0, hg, r0, hv, hk⟩)
def QM (C : Ctx) (p_x : Sl) (p_cmp : Value) (K : Heap → Prop) (H : Heap) : Prop :=
 Spec Tryz.prog C 52 [slv p_x, p_cmp] H (fun v H2 => v = .tuple #[] ∧ K H2)
def Qcc (C : Ctx) (p_a : Sl) (p_b : Sl) (K : Int → Heap → Prop) (H : Heap) : Prop :=
 Spec Tryz.prog C 53 [slv p_a, slv p_b] H (fun v H2 => ∃ (r0 : Int), v = .int .i64 r0 ∧ K r0 H2)
def QcZ (C : Ctx) (p_s : Str) (K : Bool → Heap → Prop) (H : Heap) : Prop :=
 Spec Tryz.prog C 54 [sv p_s] H (fun v H2 => ∃ (r0 : Bool), v = .bool r0 ∧ K r0 H2)
def QdB (C : Ctx) (p_s : Str) (K : Bool → Heap → Prop) (H : Heap) : Prop :=
 Spec Tryz.prog C 55 [sv p_s] H (fun v H2 => ∃ (r0 : Bool), v = .bool r0 ∧ K r0 H2)
def QcY (C : Ctx) (p_s : Str) (K : Int → Heap → Prop) (H : Heap) : Prop :=
 Spec Tryz.prog C 56 [sv p_s] H (fun v H2 => ∃ (r0 : Int), v = .int .i64 r0 ∧ K r0 H2)
def Qcb (C : Ctx) (p_a : Sl) (p_b : Sl) (K : Int → Heap → Prop) (H : Heap) : Prop :=
 Spec Tryz.prog C 58 [slv p_a, slv p_b] H (fun v H2 => ∃ (r0 : Int), v = .int .i64 r0 ∧ K r0 H2)
def QR (C : Ctx) (p_v : Qa) (p_most : Int) (K : Int → Heap → Prop) (H : Heap) : Prop :=
 Spec Tryz.prog C 59 [.agg (Qa.c p_v).toArray, .int .i64 p_most] H (fun v H2 => ∃ (r0 : Int), v = .int .i64 r0 ∧ K r0 H2)
theorem QR.gh {C : Ctx} {p_v : Qa} {p_most : Int} {K : Int → Heap → Prop} {H : Heap} (h : QR C p_v p_most (fun r0 H2 => ∃ H0, Gh C H2 H0 ∧ K r0 H0) H) : QR C p_v p_most K H :=
 Spec.gh (Spec.mono h fun _ H2 ⟨r0, hv, H0, hg, hk⟩ => ⟨H0, hg, r0, hv, hk⟩)
def Qt (C : Ctx) (p_v : Qa) (K : Bool → Bool → Heap → Prop) (H : Heap) : Prop :=
 Spec Tryz.prog C 60 [.agg (Qa.c p_v).toArray] H (fun v H2 => ∃ (r0 : Bool) (r1 : Bool), v = .tuple #[.bool r0, .bool r1] ∧ K r0 r1 H2)
theorem Qt.gh {C : Ctx} {p_v : Qa} {K : Bool → Bool → Heap → Prop} {H : Heap} (h : Qt C p_v (fun r0 r1 H2 => ∃ H0, Gh C H2 H0 ∧ K r0 r1 H0) H) : Qt C p_v K H :=
 Spec.gh (Spec.mono h fun _ H2 ⟨r0, r1, hv, H0, hg, hk⟩ => ⟨H0, hg, r0, r1, hv, hk⟩)
def Qdy (C : Ctx) (p_b : Sl) (K : Option (Nat × Nat) → Heap → Prop) (H : Heap) : Prop :=
 Spec Tryz.prog C 61 [slv p_b] H (fun v H2 => ∃ (r0 : Option (Nat × Nat)), v = pv r0 ∧ K r0 H2)
def Qa3 (C : Ctx) (p_p : Option (Nat × Nat)) (p_v : Qa) (K : Heap → Prop) (H : Heap) : Prop :=
 Spec Tryz.prog C 62 [pv p_p, .agg (Qa.c p_v).toArray] H (fun v H2 => v = .tuple #[] ∧ K H2)
def Qy (C : Ctx) (p_b : Option (Nat × Nat)) (K : Heap → Prop) (H : Heap) : Prop :=
 Spec Tryz.prog C 64 [pv p_b] H (fun v H2 => v = .tuple #[] ∧ K H2)
def Qu (C : Ctx) (p_b : Option (Nat × Nat)) (p_n : Int) (K : Heap → Prop) (H : Heap) : Prop :=
 Spec Tryz.prog C 65 [pv p_b, .int .i64 p_n] H (fun v H2 => v = .tuple #[] ∧ K H2)
theorem Qu.gh {C : Ctx} {p_b : Option (Nat × Nat)} {p_n : Int} {K : Heap → Prop} {H : Heap} (h : Qu C p_b p_n (fun  H2 => ∃ H0, Gh C H2 H0 ∧ K  H0) H) : Qu C p_b p_n K H :=
 Spec.gh (Spec.mono h fun _ H2 ⟨hv, H0, hg, hk⟩ => ⟨H0, hg, hv, hk⟩)
def QdE (C : Ctx) (p_l : Sl) (K : Bool → Heap → Prop) (H : Heap) : Prop :=
 Spec Tryz.prog C 68 [slv p_l] H (fun v H2 => ∃ (r0 : Bool), v = .bool r0 ∧ K r0 H2)
def Qee (C : Ctx) (p_a : Bool) (p_b : Bool) (K : Int → Heap → Prop) (H : Heap) : Prop :=
 Spec Tryz.prog C 69 [.bool p_a, .bool p_b] H (fun v H2 => ∃ (r0 : Int), v = .int .i64 r0 ∧ K r0 H2)
def QbN (C : Ctx) (p_a : Sl) (p_b : Sl) (K : Int → Heap → Prop) (H : Heap) : Prop :=
 Spec Tryz.prog C 70 [slv p_a, slv p_b] H (fun v H2 => ∃ (r0 : Int), v = .int .i64 r0 ∧ K r0 H2)
def QbL (C : Ctx) (p_s : Str) (K : Bool → Heap → Prop) (H : Heap) : Prop :=
 Spec Tryz.prog C 71 [sv p_s] H (fun v H2 => ∃ (r0 : Bool), v = .bool r0 ∧ K r0 H2)
def Qed (C : Ctx) (p_a : Bool) (p_b : Bool) (K : Int → Heap → Prop) (H : Heap) : Prop :=
 Spec Tryz.prog C 72 [.bool p_a, .bool p_b] H (fun v H2 => ∃ (r0 : Int), v = .int .i64 r0 ∧ K r0 H2)
def Qbc (C : Ctx) (p_a : Sl) (p_b : Sl) (K : Int → Heap → Prop) (H : Heap) : Prop :=
 Spec Tryz.prog C 73 [slv p_a, slv p_b] H (fun v H2 => ∃ (r0 : Int), v = .int .i64 r0 ∧ K r0 H2)
def Qc2 (C : Ctx) (p_s : Str) (K : Int → Bool → Heap → Prop) (H : Heap) : Prop :=
 Spec Tryz.prog C 74 [sv p_s] H (fun v H2 => ∃ (r0 : Int) (r1 : Bool), v = .tuple #[.int .i64 r0, .bool r1] ∧ K r0 r1 H2)
def QdC (C : Ctx) (p_s : Str) (p_sep : Str) (K : Str → Str → Bool → Heap → Prop) (H : Heap) : Prop :=
 Spec Tryz.prog C 75 [sv p_s, sv p_sep] H (fun v H2 => ∃ (r0 : Str) (r1 : Str) (r2 : Bool), v = .tuple #[sv r0, sv r1, .bool r2] ∧ K r0 r1 r2 H2)
def Qbd (C : Ctx) (p_s : Str) (K : Bool → Heap → Prop) (H : Heap) : Prop :=
 Spec Tryz.prog C 76 [sv p_s] H (fun v H2 => ∃ (r0 : Bool), v = .bool r0 ∧ K r0 H2)
def Qag (C : Ctx) (p_s : Sl) (K : Sl → Heap → Prop) (H : Heap) : Prop :=
 Spec Tryz.prog C 77 [slv p_s] H (fun v H2 => ∃ (r0 : Sl), v = slv r0 ∧ K r0 H2)
def QbS (C : Ctx) (p_p : Option (Nat × Nat)) (p_v : Qa) (K : Heap → Prop) (H : Heap) : Prop :=
 Spec Tryz.prog C 78 [pv p_p, .agg (Qa.c p_v).toArray] H (fun v H2 => v = .tuple #[] ∧ K H2)
def QbT (C : Ctx) (p_p : Option (Nat × Nat)) (p_v : Qa) (K : Heap → Prop) (H : Heap) : Prop :=
 Spec Tryz.prog C 79 [pv p_p, .agg (Qa.c p_v).toArray] H (fun v H2 => v = .tuple #[] ∧ K H2)
def QcW (C : Ctx) (p_p : Option (Nat × Nat)) (p_v : Qa) (K : Heap → Prop) (H : Heap) : Prop :=
 Spec Tryz.prog C 80 [pv p_p, .agg (Qa.c p_v).toArray] H (fun v H2 => v = .tuple #[] ∧ K H2)
def QbU (C : Ctx) (p_p : Option (Nat × Nat)) (p_v : Qa) (K : Heap → Prop) (H : Heap) : Prop :=
 Spec Tryz.prog C 81 [pv p_p, .agg (Qa.c p_v).toArray] H (fun v H2 => v = .tuple #[] ∧ K H2)
def Qbn (C : Ctx) (p_p : Option (Nat × Nat)) (p_v : Qa) (K : Heap → Prop) (H : Heap) : Prop :=
 Spec Tryz.prog C 82 [pv p_p, .agg (Qa.c p_v).toArray] H (fun v H2 => v = .tuple #[] ∧ K H2)
def Qca (C : Ctx) (p_p : Option (Nat × Nat)) (p_v : Qa) (K : Heap → Prop) (H : Heap) : Prop :=
 Spec Tryz.prog C 83 [pv p_p, .agg (Qa.c p_v).toArray] H (fun v H2 => v = .tuple #[] ∧ K H2)
def Qk (C : Ctx) (p_p : Option (Nat × Nat)) (p_l : Sl) (K : Heap → Prop) (H : Heap) : Prop :=
 Spec Tryz.prog C 84 [pv p_p, slv p_l] H (fun v H2 => v = .tuple #[] ∧ K H2)
def QbB (C : Ctx) (p_x : Int) (K : Int → Heap → Prop) (H : Heap) : Prop :=
 Spec Tryz.prog C 100 [.int .u64 p_x] H (fun v H2 => ∃ (r0 : Int), v = .int .i64 r0 ∧ K r0 H2)
def Qn (C : Ctx) (p_s : Sl) (p_f : Value) (K : Bool → Heap → Prop) (H : Heap) : Prop :=
 Spec Tryz.prog C 101 [slv p_s, p_f] H (fun v H2 => ∃ (r0 : Bool), v = .bool r0 ∧ K r0 H2)
def Qao (C : Ctx) (p_v : Qa) (K : Bool → Heap → Prop) (H : Heap) : Prop :=
 Spec Tryz.prog C 102 [.agg (Qa.c p_v).toArray] H (fun v H2 => ∃ (r0 : Bool), v = .bool r0 ∧ K r0 H2)
theorem Qao.gh {C : Ctx} {p_v : Qa} {K : Bool → Heap → Prop} {H : Heap} (h : Qao C p_v (fun r0 H2 => ∃ H0, Gh C H2 H0 ∧ K r0 H0) H) : Qao C p_v K H :=
 Spec.gh (Spec.mono h fun _ H2 ⟨r0, hv, H0, hg, hk⟩ => ⟨H0, hg, r0, hv, hk⟩)
def Qb (C : Ctx) (p_s1 : Sl) (p_s2 : Sl) (p_cmp : Value) (K : Int → Heap → Prop) (H : Heap) : Prop :=
 Spec Tryz.prog C 103 [slv p_s1, slv p_s2, p_cmp] H (fun v H2 => ∃ (r0 : Int), v = .int .i64 r0 ∧ K r0 H2)
theorem Qb.gh {C : Ctx} {p_s1 : Sl} {p_s2 : Sl} {p_cmp : Value} {K : Int → Heap → Prop} {H : Heap} (h : Qb C p_s1 p_s2 p_cmp (fun r0 H2 => ∃ H0, Gh C H2 H0 ∧ K r0 H0) H) : Qb C p_s1 p_s2 p_cmp K H :=
 Spec.gh (Spec.mono h fun _ H2 ⟨r0, hv, H0, hg, hk⟩ => ⟨H0, hg, r0, hv, hk⟩)
def Qav (C : Ctx) (p_x : Qa) (p_y : Qa) (K : Int → Heap → Prop) (H : Heap) : Prop :=
 Spec Tryz.prog C 104 [.agg (Qa.c p_x).toArray, .agg (Qa.c p_y).toArray] H (fun v H2 => ∃ (r0 : Int), v = .int .i64 r0 ∧ K r0 H2)
theorem Qav.gh {C : Ctx} {p_x : Qa} {p_y : Qa} {K : Int → Heap → Prop} {H : Heap} (h : Qav C p_x p_y (fun r0 H2 => ∃ H0, Gh C H2 H0 ∧ K r0 H0) H) : Qav C p_x p_y K H :=
 Spec.gh (Spec.mono h fun _ H2 ⟨r0, hv, H0, hg, hk⟩ => ⟨H0, hg, r0, hv, hk⟩)
def Qx (C : Ctx) (p_v : Qa) (p_w : Qa) (K : Int → Heap → Prop) (H : Heap) : Prop :=
 Spec Tryz.prog C 105 [.agg (Qa.c p_v).toArray, .agg (Qa.c p_w).toArray] H (fun v H2 => ∃ (r0 : Int), v = .int .i64 r0 ∧ K r0 H2)
theorem Qx.gh {C : Ctx} {p_v : Qa} {p_w : Qa} {K : Int → Heap → Prop} {H : Heap} (h : Qx C p_v p_w (fun r0 H2 => ∃ H0, Gh C H2 H0 ∧ K r0 H0) H) : Qx C p_v p_w K H :=
 Spec.gh (Spec.mono h fun _ H2 ⟨r0, hv, H0, hg, hk⟩ => ⟨H0, hg, r0, hv, hk⟩)
def QbH (C : Ctx) (p_c : Int) (K : Bool → Heap → Prop) (H : Heap) : Prop :=
 Spec Tryz.prog C 106 [.int .u8 p_c] H (fun v H2 => ∃ (r0 : Bool), v = .bool r0 ∧ K r0 H2)
def Qal (C : Ctx) (p_a : Qa) (p_b : Qa) (K : Int → Heap → Prop) (H : Heap) : Prop :=
 Spec Tryz.prog C 107 [.agg (Qa.c p_a).toArray, .agg (Qa.c p_b).toArray] H (fun v H2 => ∃ (r0 : Int), v = .int .i64 r0 ∧ K r0 H2)
theorem Qal.gh {C : Ctx} {p_a : Qa} {p_b : Qa} {K : Int → Heap → Prop} {H : Heap} (h : Qal C p_a p_b (fun r0 H2 => ∃ H0, Gh C H2 H0 ∧ K r0 H0) H) : Qal C p_a p_b K H :=
 Spec.gh (Spec.mono h fun _ H2 ⟨r0, hv, H0, hg, hk⟩ => ⟨H0, hg, r0, hv, hk⟩)
def Qaj (C : Ctx) (p_a : Int) (p_b : Int) (K : Int → Heap → Prop) (H : Heap) : Prop :=
 Spec Tryz.prog C 108 [.int .i64 p_a, .int .i64 p_b] H (fun v H2 => ∃ (r0 : Int), v = .int .i64 r0 ∧ K r0 H2)
def QaX (C : Ctx) (p_s : Str) (p_prefix : Str) (K : Str → Heap → Prop) (H : Heap) : Prop :=
 Spec Tryz.prog C 109 [sv p_s, sv p_prefix] H (fun v H2 => ∃ (r0 : Str), v = sv r0 ∧ K r0 H2)
def Qac (C : Ctx) (p_s : Str) (p_cutset : Str) (K : Str → Heap → Prop) (H : Heap) : Prop :=
 Spec Tryz.prog C 110 [sv p_s, sv p_cutset] H (fun v H2 => ∃ (r0 : Str), v = sv r0 ∧ K r0 H2)
theorem Qac.gh {C : Ctx} {p_s : Str} {p_cutset : Str} {K : Str → Heap → Prop} {H : Heap} (h : Qac C p_s p_cutset (fun r0 H2 => ∃ H0, Gh C H2 H0 ∧ K r0 H0) H) : Qac C p_s p_cutset K H :=
 Spec.gh (Spec.mono h fun _ H2 ⟨r0, hv, H0, hg, hk⟩ => ⟨H0, hg, r0, hv, hk⟩)
def QaW (C : Ctx) (p_s : Str) (p_sep : Str) (K : Str → Str → Bool → Heap → Prop) (H : Heap) : Prop :=
 Spec Tryz.prog C 111 [sv p_s, sv p_sep] H (fun v H2 => ∃ (r0 : Str) (r1 : Str) (r2 : Bool), v = .tuple #[sv r0, sv r1, .bool r2] ∧ K r0 r1 r2 H2)
def QcX (C : Ctx) (p_p : Option (Nat × Nat)) (p_n : Int) (K : Heap → Prop) (H : Heap) : Prop :=
 Spec Tryz.prog C 112 [pv p_p, .int .i64 p_n] H (fun v H2 => v = .tuple #[] ∧ K H2)
def Qba (C : Ctx) (p_s : Str) (p_prefix : Str) (K : Str → Bool → Heap → Prop) (H : Heap) : Prop :=
 Spec Tryz.prog C 113 [sv p_s, sv p_prefix] H (fun v H2 => ∃ (r0 : Str) (r1 : Bool), v = .tuple #[sv r0, .bool r1] ∧ K r0 r1 H2)
def Qae (C : Ctx) (p_p : Option (Nat × Nat)) (p_is : Bool) (K : Heap → Prop) (H : Heap) : Prop :=
 Spec Tryz.prog C 114 [pv p_p, .bool p_is] H (fun v H2 => v = .tuple #[] ∧ K H2)
def QaO (C : Ctx) (p_p : Option (Nat × Nat)) (p_first : Int) (p_u : Int) (K : Heap → Prop) (H : Heap) : Prop :=
 Spec Tryz.prog C 115 [pv p_p, .int .u8 p_first, .int .u64 p_u] H (fun v H2 => v = .tuple #[] ∧ K H2)
def Qbo (C : Ctx) (p_p : Option (Nat × Nat)) (p_s : Str) (K : Heap → Prop) (H : Heap) : Prop :=
 Spec Tryz.prog C 116 [pv p_p, sv p_s] H (fun v H2 => v = .tuple #[] ∧ K H2)
def Qs (C : Ctx) (p_s : Sl) (p_f : Value) (K : Int → Heap → Prop) (H : Heap) : Prop :=
 Spec Tryz.prog C 126 [slv p_s, p_f] H (fun v H2 => ∃ (r0 : Int), v = .int .i64 r0 ∧ K r0 H2)
def Qa7 (C : Ctx) (p_x : Int) (p_y : Int) (K : Int → Heap → Prop) (H : Heap) : Prop :=
 Spec Tryz.prog C 127 [.int .u8 p_x, .int .u8 p_y] H (fun v H2 => ∃ (r0 : Int), v = .int .i64 r0 ∧ K r0 H2)
def Q5 (C : Ctx) (p_a : Str) (p_b : Str) (K : Int → Heap → Prop) (H : Heap) : Prop :=
 Spec Tryz.prog C 128 [sv p_a, sv p_b] H (fun v H2 => ∃ (r0 : Int), v = .int .i64 r0 ∧ K r0 H2)
theorem Q5.gh {C : Ctx} {p_a : Str} {p_b : Str} {K : Int → Heap → Prop} {H : Heap} (h : Q5 C p_a p_b (fun r0 H2 => ∃ H0, Gh C H2 H0 ∧ K r0 H0) H) : Q5 C p_a p_b K H :=
 Spec.gh (Spec.mono h fun _ H2 ⟨r0, hv, H0, hg, hk⟩ => ⟨H0, hg, r0, hv, hk⟩)
def QL (C : Ctx) (p_x : Str) (p_y : Str) (K : Int → Heap → Prop) (H : Heap) : Prop :=
 Spec Tryz.prog C 129 [sv p_x, sv p_y] H (fun v H2 => ∃ (r0 : Int), v = .int .i64 r0 ∧ K r0 H2)
def Qct (C : Ctx) (p_vals : Sl) (K : Int → Heap → Prop) (H : Heap) : Prop :=
 Spec Tryz.prog C 130 [slv p_vals] H (fun v H2 => ∃ (r0 : Int), v = .int .i64 r0 ∧ K r0 H2)
def Qa6 (C : Ctx) (p_x : Int) (p_y : Int) (K : Int → Heap → Prop) (H : Heap) : Prop :=
 Spec Tryz.prog C 131 [.int .i64 p_x, .int .i64 p_y] H (fun v H2 => ∃ (r0 : Int), v = .int .i64 r0 ∧ K r0 H2)
def QbK (C : Ctx) (p_a : Str) (p_b : Str) (K : Int → Heap → Prop) (H : Heap) : Prop :=
 Spec Tryz.prog C 132 [sv p_a, sv p_b] H (fun v H2 => ∃ (r0 : Int), v = .int .i64 r0 ∧ K r0 H2)
def Qbq (C : Ctx) (p_a : Str) (p_b : Str) (K : Int → Heap → Prop) (H : Heap) : Prop :=
 Spec Tryz.prog C 133 [sv p_a, sv p_b] H (fun v H2 => ∃ (r0 : Int), v = .int .i64 r0 ∧ K r0 H2)
def Q0 (C : Ctx) (p_s : Str) (p_prefix : Str) (K : Str → Heap → Prop) (H : Heap) : Prop :=
 Spec Tryz.prog C 134 [sv p_s, sv p_prefix] H (fun v H2 => ∃ (r0 : Str), v = sv r0 ∧ K r0 H2)
def Qd9 (C : Ctx) (p_s : Str) (p_c : Int) (K : Str → Heap → Prop) (H : Heap) : Prop :=
 Spec Tryz.prog C 135 [sv p_s, .int .u8 p_c] H (fun v H2 => ∃ (r0 : Str), v = sv r0 ∧ K r0 H2)
def QdD (C : Ctx) (p_s : Str) (p_c : Int) (K : Str → Heap → Prop) (H : Heap) : Prop :=
 Spec Tryz.prog C 136 [sv p_s, .int .u8 p_c] H (fun v H2 => ∃ (r0 : Str), v = sv r0 ∧ K r0 H2)
def Qp (C : Ctx) (p_chars : Str) (K : List Value → Bool → Heap → Prop) (H : Heap) : Prop :=
 Spec Tryz.prog C 137 [sv p_chars] H (fun v H2 => ∃ (r0 : List Value) (r1 : Bool), v = .tuple #[.agg (List.toArray r0), .bool r1] ∧ K r0 r1 H2)
theorem Qp.gh {C : Ctx} {p_chars : Str} {K : List Value → Bool → Heap → Prop} {H : Heap} (h : Qp C p_chars (fun r0 r1 H2 => ∃ H0, Gh C H2 H0 ∧ K r0 r1 H0) H) : Qp C p_chars K H :=
 Spec.gh (Spec.mono h fun _ H2 ⟨r0, r1, hv, H0, hg, hk⟩ => ⟨H0, hg, r0, r1, hv, hk⟩)
def Qan (C : Ctx) (p_s : Str) (p_as : Option (Nat × Nat)) (K : Str → Heap → Prop) (H : Heap) : Prop :=
 Spec Tryz.prog C 138 [sv p_s, pv p_as] H (fun v H2 => ∃ (r0 : Str), v = sv r0 ∧ K r0 H2)
def Qah (C : Ctx) (p_s : Str) (p_as : Option (Nat × Nat)) (K : Str → Heap → Prop) (H : Heap) : Prop :=
 Spec Tryz.prog C 139 [sv p_s, pv p_as] H (fun v H2 => ∃ (r0 : Str), v = sv r0 ∧ K r0 H2)
def Qc1 (C : Ctx) (p_s : Str) (p_cutset : Str) (K : Str → Heap → Prop) (H : Heap) : Prop :=
 Spec Tryz.prog C 140 [sv p_s, sv p_cutset] H (fun v H2 => ∃ (r0 : Str), v = sv r0 ∧ K r0 H2)
def Qcr (C : Ctx) (p_s : Str) (p_cutset : Str) (K : Str → Heap → Prop) (H : Heap) : Prop :=
 Spec Tryz.prog C 141 [sv p_s, sv p_cutset] H (fun v H2 => ∃ (r0 : Str), v = sv r0 ∧ K r0 H2)
def QN (C : Ctx) (p_s : Str) (p_substr : Str) (K : Int → Heap → Prop) (H : Heap) : Prop :=
 Spec Tryz.prog C 142 [sv p_s, sv p_substr] H (fun v H2 => ∃ (r0 : Int), v = .int .i64 r0 ∧ K r0 H2)
def Qad (C : Ctx) (p_s : Str) (p_prefix : Str) (K : Str → Bool → Heap → Prop) (H : Heap) : Prop :=
 Spec Tryz.prog C 143 [sv p_s, sv p_prefix] H (fun v H2 => ∃ (r0 : Str) (r1 : Bool), v = .tuple #[sv r0, .bool r1] ∧ K r0 r1 H2)
def QaN (C : Ctx) (p_x : Int) (K : Bool → Heap → Prop) (H : Heap) : Prop :=
 Spec Tryz.prog C 147 [.int .u8 p_x] H (fun v H2 => ∃ (r0 : Bool), v = .bool r0 ∧ K r0 H2)
def Qam (C : Ctx) (p_s : Str) (p_prefix : Str) (K : Bool → Heap → Prop) (H : Heap) : Prop :=
 Spec Tryz.prog C 148 [sv p_s, sv p_prefix] H (fun v H2 => ∃ (r0 : Bool), v = .bool r0 ∧ K r0 H2)
def QbA (C : Ctx) (p_x : Int) (p_y : Int) (K : Int → Heap → Prop) (H : Heap) : Prop :=
 Spec Tryz.prog C 149 [.int .i64 p_x, .int .i64 p_y] H (fun v H2 => ∃ (r0 : Int), v = .int .i64 r0 ∧ K r0 H2)
def Qax (C : Ctx) (p_x : Str) (K : Bool → Heap → Prop) (H : Heap) : Prop :=
 Spec Tryz.prog C 150 [sv p_x] H (fun v H2 => ∃ (r0 : Bool), v = .bool r0 ∧ K r0 H2)
def QaM (C : Ctx) (p_x : Int) (K : Bool → Heap → Prop) (H : Heap) : Prop :=
 Spec Tryz.prog C 151 [.int .i64 p_x] H (fun v H2 => ∃ (r0 : Bool), v = .bool r0 ∧ K r0 H2)
def Qg (C : Ctx) (p_s : Str) (p_prefix : Str) (K : Bool → Heap → Prop) (H : Heap) : Prop :=
 Spec Tryz.prog C 152 [sv p_s, sv p_prefix] H (fun v H2 => ∃ (r0 : Bool), v = .bool r0 ∧ K r0 H2)
def Qz (C : Ctx) (p_as : Option (Nat × Nat)) (p_c : Int) (K : Bool → Heap → Prop) (H : Heap) : Prop :=
 Spec Tryz.prog C 153 [pv p_as, .int .u8 p_c] H (fun v H2 => ∃ (r0 : Bool), v = .bool r0 ∧ K r0 H2)
def QD (C : Ctx) (p_s : Str) (p_c : Int) (K : Int → Heap → Prop) (H : Heap) : Prop :=
 Spec Tryz.prog C 157 [sv p_s, .int .u8 p_c] H (fun v H2 => ∃ (r0 : Int), v = .int .i64 r0 ∧ K r0 H2)
def Qcq (C : Ctx) (p_n : Int) (K : Int → Heap → Prop) (H : Heap) : Prop :=
 Spec Tryz.prog C 159 [.int .i64 p_n] H (fun v H2 => ∃ (r0 : Int), v = .int .i64 r0 ∧ K r0 H2)
def QaE (C : Ctx) (p_s : Str) (p_sep : Str) (K : Int → Heap → Prop) (H : Heap) : Prop :=
 Spec Tryz.prog C 160 [sv p_s, sv p_sep] H (fun v H2 => ∃ (r0 : Int), v = .int .i64 r0 ∧ K r0 H2)
def Qbm (C : Ctx) (p_x : Int) (K : Bool → Heap → Prop) (H : Heap) : Prop :=
 Spec Tryz.prog C 161 [.int .i64 p_x] H (fun v H2 => ∃ (r0 : Bool), v = .bool r0 ∧ K r0 H2)
def Qco (C : Ctx) (p_l : Sl) (K : Bool → Heap → Prop) (H : Heap) : Prop :=
 QdA C p_l (fun r1 H2 =>
 ift r1
 (K true H2)
 (Qdz C (fun r4 H5 =>
 nw (Qi.c (⟨Sl.nil⟩ : Qi)) (fun b6 H7 =>
 lp (α := (Option (Nat × Nat)) × Int) (r4, 0) H7 (fun x8 J9 H10 =>
 ift (decide ((x8.2 : Int) < (Sl.len p_l : Int)))
 (ixa p_l x8.2 fun p12 =>
 ldT H10 Qf.c (p12.1, p12.2 + (x8.2 : Int).toNat * 3) fun x17 =>
 nw (Qf.c Qf.zero) (fun b19 H20 =>
 stT (b19, 0) (Qf.c x17) (fun H21 =>
 ldL H21 ((b19, 0).1, (b19, 0).2 + 1) fun x22 =>
 QaH C x22 (fun r24 H25 =>
 nw ([]) (fun b26 H27 =>
 ldL H27 ((b19, 0).1, (b19, 0).2 + 2) fun x28 =>
 apS ([.int .i64 0]) 8 (Sl.of (some (b26, 0)) 0 0) x28 (fun r30 H31 =>
 jn (α := Option (Nat × Nat)) (fun x33 H34 =>
 Qw C r24 (fun H107 =>
 lp (α := Int) 0 H107 (fun x108 J109 H110 =>
 ift (decide ((x108 : Int) < (Sl.len r30 : Int)))
 (ixa r30 x108 fun p112 =>
 st (p112.1, p112.2 + (x108 : Int).toNat * 1) (.int .i64 (-5)) (fun H117 =>
 J109 (w .i64 (x108 + 1)) H117) H110)
 (Qaf C x33 (fun r118 H119 =>
 jn (α := Bool) (fun x121 H122 =>
 ift x121
 (K false H122)
 (lp (α := Int) 0 H122 (fun x149 J150 H151 =>
 ift (decide ((x149 : Int) < (Sl.len r118 : Int)))
 (ixa r118 x149 fun p153 =>
 ldL H151 (p153.1, p153.2 + (x149 : Int).toNat * 1) fun x158 =>
 Qw C x158 (fun H160 =>
 J150 (w .i64 (x149 + 1)) H160) H151)
 (J9 (x33, (w .i64 (x8.2 + 1))) H151))))
 (fun J120 => dr H119 fun Hs124 =>
 ldL Hs124 ((b19, 0).1, (b19, 0).2 + 1) fun x126 =>
 ldL Hs124 ((b19, 0).1, (b19, 0).2 + 1) fun x128 =>
 QaP C x33 x126 (fun r131 H132 =>
 Heap.le Hs124 H132 ∧
 QaS C (some (b6, 0)) x128 (fun r134 H135 =>
 Heap.le Hs124 H135 ∧
 ift (!(r131 == r134))
 (J120 true H135)
 (ldL Hs124 ((b6, 0).1, (b6, 0).2 + 0) fun x137 =>
 QaQ C x33 (fun r140 H141 =>
 Heap.le Hs124 H141 ∧
 ift ((r140 : Int) != (Sl.len x137 : Int))
 (J120 true H141)
 (ldL Hs124 ((b6, 0).1, (b6, 0).2 + 0) fun x143 =>
 QY C r118 x143 (fun r146 H147 =>
 Heap.le Hs124 H147 ∧
 J120 (!r146) H147) H141)) H135)) H132) H119)) H110))) H34)
 (fun J32 => ldI H31 .u8 ((b19, 0).1, (b19, 0).2 + 0) fun x36 =>
 ift ((x36 : Int) == 0)
 (Qr C x8.1 r24 (fun r39 r40 H41 =>
 ldL H41 ((b19, 0).1, (b19, 0).2 + 1) fun x42 =>
 QaT C (some (b6, 0)) x42 (fun r44 r45 H46 =>
 ift ((!(r39 == r44)) || ((r40 : Int) != r45))
 (K false H46)
 (J32 x8.1 H46)) H41) H31)
 (ift ((x36 : Int) == 1)
 (QG C x8.1 r24 (fun r50 r51 H52 =>
 ldL H52 ((b19, 0).1, (b19, 0).2 + 1) fun x53 =>
 QaR C (some (b6, 0)) x53 (fun r55 r56 H57 =>
 ift ((!(r50 == r55)) || ((r51 : Int) != r56))
 (K false H57)
 (J32 x8.1 H57)) H52) H31)
 (ift ((x36 : Int) == 2)
 (QK C x8.1 r30 r24 (fun r61 r62 H63 =>
 ldL H63 ((b19, 0).1, (b19, 0).2 + 2) fun x64 =>
 ldL H63 ((b19, 0).1, (b19, 0).2 + 1) fun x66 =>
 Qaz C (some (b6, 0)) x64 x66 (fun r68 r69 H70 =>
 jn (α := Bool) (fun b71 H77 =>
 ift b71
 (K false H77)
 (lp (α := Int) 0 H77 (fun x79 J80 H81 =>
 ift (decide ((x79 : Int) < (Sl.len r61 : Int)))
 (ixa r61 x79 fun p83 =>
 ldL H81 (p83.1, p83.2 + (x79 : Int).toNat * 1) fun x88 =>
 Qw C x88 (fun H90 =>
 J80 (w .i64 (x79 + 1)) H90) H81)
 (J32 x8.1 H81))))
 (fun J72 => ift ((r62 : Int) != r69)
 (J72 true H70)
 (QY C r61 r68 (fun r75 H76 =>
 J72 (!r75) H76) H70))) H63) H31)
 (ift ((x36 : Int) == 3)
 (Qay C x8.1 (fun r92 H93 =>
 Qr C x8.1 r24 (fun r94 r95 H96 =>
 ldL H96 ((b19, 0).1, (b19, 0).2 + 1) fun x97 =>
 QG C x8.1 x97 (fun r99 r100 H101 =>
 nw ((Qa.c (⟨1, 0, [], Sl.nil⟩ : Qa)) ++ []) (fun b102 H103 =>
 Qr C x8.1 (Sl.of (some (b102, 0)) 1 1) (fun r104 r105 H106 =>
 J32 r92 H106) H103) H101) H96) H93) H31)
 (J32 x8.1 H31)))))) H27) H25) H21) H20) H10)
 (dr H10 fun Hs161 =>
 ldL Hs161 ((b6, 0).1, (b6, 0).2 + 0) fun x163 =>
 Qaf C x8.1 (fun r166 H167 =>
 Heap.le Hs161 H167 ∧
 QY C r166 x163 (fun r169 H170 =>
 Heap.le Hs161 H170 ∧
 K r169 H170) H167) H10))) H5) H2)) H
theorem Qe8 (C p_l K H) (h : Qco C p_l K H) : Q1 C p_l K H := by
 refine Ye Tryz.func6 rfl Tryz.ntmps6 [(0, slv p_l)] (Zo (Za (GL.nil (GC.seq (Zo (Zm (Zc h Qh1 ?_)))))))
 rintro _ H2 ⟨r1, rfl, h⟩
 refine GL.nil (Yd h (fun hc3 h => ?_) fun hc3 h => ?_)
 refine Zo (Za (GL.nil ?_))
 exact Y1 I3 ⟨true, rfl, h⟩
 refine GC.skip (Zo (Zc h Qjx ?_))
 rintro _ H5 ⟨r4, rfl, h⟩
 refine Za (GL.nil (Zo (Zv (OV.build (vs := []) (v := .agg (Qi.c (⟨Sl.nil⟩ : Qi)).toArray) rfl (fun _ => by kernel_rfl)) (GL.box (v := .agg (Qi.c (⟨Sl.nil⟩ : Qi)).toArray) (cs := Qi.c (⟨Sl.nil⟩ : Qi)) h trivial rfl rfl rfl ?_))))
 intro b6 H7 h
 refine Za (GL.nil (GC.seq (Zo (Za (GL.nil (GC.block (Yp h (fun x8 => [(3, pv x8.1), (5, .int .i64 x8.2), (0, slv p_l), (4, pv (some (b6, 0)))]) ?_)))))))
 intro x8 H10 J9 h
 refine GC.seq (Zo (Zm (Zm (Zq (Zi (.bool (decide ((x8.2 : Int) < (Sl.len p_l : Int)))) (GL.nil (Yd h (fun hc11 h => ?_) fun hc11 h => ?_)))))))
 refine GC.skip (GC.seq (GC.block (Zo (Zm (Zm (Yx h fun p12 h => ?_))))))
 obtain ⟨x17, v18, h⟩ := h
 refine Zv (OV.loadT rfl rfl rfl v18) (GL.alloc (cs := Qf.c Qf.zero) h trivial rfl rfl rfl ?_)
 intro b19 H20 h
 refine GL.storeT (p := (b19, 0)) (vs := Qf.c x17) h trivial rfl rfl rfl rfl ?_
 intro H21 h
 refine GL.nil (Zo (Zf (Yl h fun x22 h => ?_)))
 refine Zc h QcA ?_
 rintro _ H25 ⟨r24, rfl, h⟩
 refine Za (GL.nil (Zo (GL.buildSlice (cs := []) h trivial rfl (vs := []) rfl ⟨3, fun _ => by kernel_rfl⟩ ?_)))
 intro b26 H27 h
 refine Zf (Yl h fun x28 h => ?_)
 refine GL.appendS (s := (Sl.of (some (b26, 0)) 0 0)) (s2 := x28) (zc := [.int .i64 0]) (bytes := 8) h trivial rfl rfl rfl ⟨⟨_, _, _, rfl, rfl, rfl, rfl, rfl, rfl⟩⟩ rfl ?_
 intro r30 H31 h
 refine Za (GL.nil ?_)
 obtain ⟨J32, h, hR35⟩ := h
 refine GC.join (α := Option (Nat × Nat)) J32 (fun x33 => [(3, pv x33), (0, slv p_l), (4, pv (some (b6, 0))), (5, .int .i64 x8.2), (6, pv (some (b19, 0))), (7, slv r24), (8, slv r30)]) ?_ ?_
 refine Zo (Zf (Yl h fun x36 h => ?_))
 refine GL.nil (GC.block (Zo (Zi (.bool ((x36 : Int) == 0)) (Za (GL.nil (Yd h (fun hc38 h => ?_) fun hc38 h => ?_))))))
 refine Zo (Zm (Zm (Zc h Qbs ?_)))
 rintro _ H41 ⟨r39, r40, rfl, h⟩
 refine Zm (Yv (.bool r39) rfl rfl (Yv (.int .i64 r40) rfl rfl (Za (Za (GL.nil (Zo (Zm (Zf (Yl h fun x42 h => ?_)))))))))
 refine Zc h QfN ?_
 rintro _ H46 ⟨r44, r45, rfl, h⟩
 refine Zm (Yv (.bool r44) rfl rfl (Yv (.int .i64 r45) rfl rfl (Za (Za (GL.nil (Zo (Zm (Zm (Zv (OV.neqBool rfl rfl rfl) (Zm (GL.cut0 4 [(72, .bool ((!(r39 == r44)) || ((r40 : Int) != r45))), (0, slv p_l), (3, pv x8.1), (4, pv (some (b6, 0))), (5, .int .i64 x8.2), (6, pv (some (b19, 0))), (7, slv r24), (8, slv r30)] ?_ ?_)))))))))))
 rcases Zb (!(r39 == r44)) with hc47 | hc47
 refine Zk hc47 (Zk hc47 (Zk hc47 (Zt hc47 ?_)))
 exact GL.jump0 (fun _ _ h => h) () rfl ⟨(by rw [hc47]; rfl), rfl, rfl, rfl, rfl, rfl, rfl, rfl, trivial⟩
 refine Zu hc47 Ym (Zu hc47 Ym (Zu hc47 (OV.ibin (v := .bool ((r40 : Int) != r45)) rfl rfl rfl) (Zn hc47 ?_)))
 exact GL.jump0 (fun _ _ h => h) () rfl ⟨(by rw [hc47]; rfl), rfl, rfl, rfl, rfl, rfl, rfl, rfl, trivial⟩
 refine GL.nil (Yd h (fun hc48 h => ?_) fun hc48 h => ?_)
 refine Zo (Za (GL.nil ?_))
 exact Y1 I3 ⟨false, rfl, h⟩
 exact Yk I3 x8.1 h
 refine Zo (Zi (.bool ((x36 : Int) == 1)) (Za (GL.nil (Yd h (fun hc49 h => ?_) fun hc49 h => ?_))))
 refine Zo (Zm (Zm (Zc h Qcz ?_)))
 rintro _ H52 ⟨r50, r51, rfl, h⟩
 refine Zm (Yv (.bool r50) rfl rfl (Yv (.int .i64 r51) rfl rfl (Za (Za (GL.nil (Zo (Zm (Zf (Yl h fun x53 h => ?_)))))))))
 refine Zc h QfM ?_
 rintro _ H57 ⟨r55, r56, rfl, h⟩
 refine Zm (Yv (.bool r55) rfl rfl (Yv (.int .i64 r56) rfl rfl (Za (Za (GL.nil (Zo (Zm (Zm (Zv (OV.neqBool rfl rfl rfl) (Zm (GL.cut0 4 [(95, .bool ((!(r50 == r55)) || ((r51 : Int) != r56))), (0, slv p_l), (3, pv x8.1), (4, pv (some (b6, 0))), (5, .int .i64 x8.2), (6, pv (some (b19, 0))), (7, slv r24), (8, slv r30)] ?_ ?_)))))))))))
 rcases Zb (!(r50 == r55)) with hc58 | hc58
 refine Zk hc58 (Zk hc58 (Zk hc58 (Zt hc58 ?_)))
 exact GL.jump0 (fun _ _ h => h) () rfl ⟨(by rw [hc58]; rfl), rfl, rfl, rfl, rfl, rfl, rfl, rfl, trivial⟩
 refine Zu hc58 Ym (Zu hc58 Ym (Zu hc58 (OV.ibin (v := .bool ((r51 : Int) != r56)) rfl rfl rfl) (Zn hc58 ?_)))
 exact GL.jump0 (fun _ _ h => h) () rfl ⟨(by rw [hc58]; rfl), rfl, rfl, rfl, rfl, rfl, rfl, rfl, trivial⟩
 refine GL.nil (Yd h (fun hc59 h => ?_) fun hc59 h => ?_)
 refine Zo (Za (GL.nil ?_))
 exact Y1 I3 ⟨false, rfl, h⟩
 exact Yk I3 x8.1 h
 refine Zo (Zi (.bool ((x36 : Int) == 2)) (Za (GL.nil (Yd h (fun hc60 h => ?_) fun hc60 h => ?_))))
 refine Zo (Zm (Zm (Zm (Zc h Qfd ?_))))
 rintro _ H63 ⟨r61, r62, rfl, h⟩
 refine Zm (Yv (slv r61) rfl rfl (Yv (.int .i64 r62) rfl rfl (Za (Za (GL.nil (Zo (Zm (Zf (Yl h fun x64 h => ?_)))))))))
 refine Zf (Yl h fun x66 h => ?_)
 refine Zc h Qfe ?_
 rintro _ H70 ⟨r68, r69, rfl, h⟩
 refine Zm (Yv (slv r68) rfl rfl (Yv (.int .i64 r69) rfl rfl (Za (Za (GL.nil (GC.seq (Zo (Zm (Zm (Zi (.bool ((r62 : Int) != r69)) (Zm ?_)))))))))))
 obtain ⟨J72, h, hR73⟩ := h
 refine GL.cut (α := Bool) 5 J72 (fun b71 => [(122, .bool b71), (0, slv p_l), (3, pv x8.1), (4, pv (some (b6, 0))), (5, .int .i64 x8.2), (6, pv (some (b19, 0))), (7, slv r24), (8, slv r30), (17, slv r61)]) ?_ ?_
 rcases h.em with ⟨hc74, h⟩ | ⟨hc74, h⟩
 refine Zk hc74 (Zk hc74 (Zk hc74 (Zk hc74 (Zt hc74 ?_))))
 exact Yj I3 true h
 refine Zu hc74 Ym (Zu hc74 Ym (GL.call h (Yt hc74) rfl QbE (vs := [slv r61, slv r68]) rfl ?_))
 rintro _ H76 ⟨r75, rfl, h⟩
 refine Zu hc74 (OV.not rfl) (Zn hc74 ?_)
 exact Yj I3 (!r75) h
 intro b71 H77 h
 replace h := hR73 b71 H77 h
 refine GL.nil (Yd h (fun hc78 h => ?_) fun hc78 h => ?_)
 refine Zo (Za (GL.nil ?_))
 exact Y1 I3 ⟨false, rfl, h⟩
 refine GC.skip (Zo (Za (GL.nil (GC.block (Yp h (fun x79 => [(21, .int .i64 x79), (0, slv p_l), (3, pv x8.1), (4, pv (some (b6, 0))), (5, .int .i64 x8.2), (6, pv (some (b19, 0))), (7, slv r24), (8, slv r30), (17, slv r61)]) ?_)))))
 intro x79 H81 J80 h
 refine GC.seq (Zo (Zm (Zm (Zq (Zi (.bool (decide ((x79 : Int) < (Sl.len r61 : Int)))) (GL.nil (Yd h (fun hc82 h => ?_) fun hc82 h => ?_)))))))
 refine GC.skip (GC.seq (GC.block (GC.region (Zm (Zm (Yx h fun p83 h => ?_))))))
 refine Yl h fun x88 h => ?_
 refine Zc h QbI ?_
 rintro _ H90 ⟨rfl, h⟩
 refine GL.nil_to (fun _ _ h => h) (GC.region (Zm (Zi (.int .i64 (w .i64 (x79 + 1))) (Za ?_))))
 exact Yj I3 (w .i64 (x79 + 1)) h
 exact GC.exit_jump (fun _ _ h => h) x8.1 h ⟨rfl, rfl, rfl, rfl, rfl, rfl, rfl, trivial⟩
 refine Zo (Zi (.bool ((x36 : Int) == 3)) (Za (GL.nil (Yd h (fun hc91 h => ?_) fun hc91 h => ?_))))
 refine Zo (Zm (Zc h Qfc ?_))
 rintro _ H93 ⟨r92, rfl, h⟩
 refine Za (GL.nil (Zo (Zm (Zm (Zc h Qbs ?_)))))
 rintro _ H96 ⟨r94, r95, rfl, h⟩
 refine GL.nil (Zo (Zm (Zf (Yl h fun x97 h => ?_))))
 refine Zc h Qcz ?_
 rintro _ H101 ⟨r99, r100, rfl, h⟩
 refine GL.nil (Zo (Zm (Zv (OV.build (vs := [(0, .int .u8 1)]) (v := .agg (Qa.c (⟨1, 0, [], Sl.nil⟩ : Qa)).toArray) rfl (fun _ => by kernel_rfl)) (GL.buildSlice (cs := (Qa.c (⟨1, 0, [], Sl.nil⟩ : Qa)) ++ []) h trivial rfl (vs := [(0, .agg (Qa.c (⟨1, 0, [], Sl.nil⟩ : Qa)).toArray)]) rfl ⟨36, fun _ => by kernel_rfl⟩ ?_))))
 intro b102 H103 h
 refine Zc h Qbs ?_
 rintro _ H106 ⟨r104, r105, rfl, h⟩
 refine GL.nil (GC.region (Zm (Za ?_)))
 exact Yj I3 r92 h
 exact Yk I3 x8.1 h
 intro x33 H34 h
 replace h := hR35 x33 H34 h
 refine Zo (Zm (Zc h QbI ?_))
 rintro _ H107 ⟨rfl, h⟩
 refine GL.nil (GC.seq (Zo (Za (GL.nil (GC.block (Yp h (fun x108 => [(23, .int .i64 x108), (0, slv p_l), (3, pv x33), (4, pv (some (b6, 0))), (5, .int .i64 x8.2), (6, pv (some (b19, 0))), (8, slv r30)]) ?_))))))
 intro x108 H110 J109 h
 refine GC.seq (Zo (Zm (Zm (Zq (Zi (.bool (decide ((x108 : Int) < (Sl.len r30 : Int)))) (GL.nil (Yd h (fun hc111 h => ?_) fun hc111 h => ?_)))))))
 refine GC.skip (GC.seq (GC.block (GC.region (Zm (Zm (Yx h fun p112 h => ?_))))))
 refine GL.store (p := (p112.1, p112.2 + (x108 : Int).toNat * 1)) (v := .int .i64 (-5)) h trivial rfl rfl rfl rfl ?_
 intro H117 h
 refine GL.nil_to (fun _ _ h => h) (GC.region (Zm (Zi (.int .i64 (w .i64 (x108 + 1))) (Za ?_))))
 exact Yj I3 (w .i64 (x108 + 1)) h
 refine GC.exit_to (fun _ _ h => h) (Zo (Zm (Zc h Qcy ?_)))
 rintro _ H119 ⟨r118, rfl, h⟩
 refine Za (GL.nil (GC.seq (GC.seq ?_)))
 obtain ⟨J120, h, hR123⟩ := h
 refine GC.meet (α := Bool) J120 (fun x121 => [(190, .bool x121), (0, slv p_l), (3, pv x33), (4, pv (some (b6, 0))), (5, .int .i64 x8.2), (24, slv r118)]) ?_ ?_
 obtain ⟨Hs124, hle125, h⟩ := h
 refine GC.any (Hs := Hs124) (by kernel_rfl) hle125 (Zp 0 rfl Ym (Zp 1 rfl Yf ?_))
 obtain ⟨x126, v127, h⟩ := h
 refine Zp 2 rfl (Yo v127) (Zp 4 rfl Ym (Zp 5 rfl Yf ?_))
 obtain ⟨x128, v129, h⟩ := h
 refine Zp 6 rfl (Yo v129) (GA.eff 3 rfl (by kernel_rfl) (Zc h QfE ?_))
 rintro _ H132 ⟨r131, rfl, h⟩
 obtain ⟨hle130, h⟩ := h
 refine GA.back hle130 (GA.eff 7 rfl (by kernel_rfl) (Zc h QcC ?_))
 rintro _ H135 ⟨r134, rfl, h⟩
 obtain ⟨hle133, h⟩ := h
 refine GA.back hle133 (Zp 8 rfl (OV.neqBool rfl rfl rfl) (Zp 9 rfl Ym ?_))
 rcases h.em with ⟨hc136, h⟩ | ⟨hc136, h⟩
 refine Zj 10 rfl (Yw hc136) (Zj 11 rfl (Yw hc136) (Zj 12 rfl (Yw hc136) (Zj 13 rfl (Yw hc136) (Zj 14 rfl (Yw hc136) (Zj 15 rfl (Yw hc136) (Zj 16 rfl (Yw hc136) (Zj 17 rfl (Yw hc136) (Zp 18 rfl (OV.pickT rfl hc136 rfl) (Zp 19 rfl Ym (Zj 20 rfl (Yw rfl) (Zj 21 rfl (Yw rfl) (Zj 22 rfl (Yw rfl) (Zj 23 rfl (Yw rfl) (Zj 24 rfl (Yw rfl) (Zj 25 rfl (Yw rfl) (Zj 26 rfl (Yw rfl) (Zp 27 rfl (OV.pickT rfl rfl rfl) (GA.done (by kernel_rfl) ?_))))))))))))))))))
 exact Yj I3 true h
 refine Zg 10 rfl (Yt hc136) Ym (Zg 12 rfl (Yt hc136) Ym (Zg 13 rfl (Yt hc136) (OV.nilCheck (q := some (b6, 0)) rfl rfl) (Zg 14 rfl (Yt hc136) Yf ?_)))
 obtain ⟨x137, v138, h⟩ := h
 refine Zg 15 rfl (Yt hc136) (Yo v138) (Zg 16 rfl (Yt hc136) (OV.lenSl rfl rfl) (GA.eff 11 rfl (by kernel_rfl) (GL.call h (Yt hc136) rfl QfF (vs := [pv x33]) rfl ?_)))
 rintro _ H141 ⟨r140, rfl, h⟩
 obtain ⟨hle139, h⟩ := h
 refine GA.back hle139 (Zg 17 rfl (Yt hc136) (OV.ibin (v := .bool ((r140 : Int) != (Sl.len x137 : Int))) rfl rfl rfl) (Zp 18 rfl (OV.pickF rfl hc136 rfl) (Zp 19 rfl Ym ?_)))
 rcases h.em with ⟨hc142, h⟩ | ⟨hc142, h⟩
 refine Zj 20 rfl (Yw hc142) (Zj 21 rfl (Yw hc142) (Zj 22 rfl (Yw hc142) (Zj 23 rfl (Yw hc142) (Zj 24 rfl (Yw hc142) (Zj 25 rfl (Yw hc142) (Zj 26 rfl (Yw hc142) (Zp 27 rfl (OV.pickT rfl hc142 rfl) (GA.done (by kernel_rfl) ?_))))))))
 exact Yj I3 true h
 refine Zg 20 rfl (Yt hc142) Ym (Zg 21 rfl (Yt hc142) Ym (Zg 22 rfl (Yt hc142) (OV.nilCheck (q := some (b6, 0)) rfl rfl) (Zg 23 rfl (Yt hc142) Yf ?_)))
 obtain ⟨x143, v144, h⟩ := h
 refine Zg 24 rfl (Yt hc142) (Yo v144) (GA.eff 25 rfl (by kernel_rfl) (GL.call h (Yt hc142) rfl QbE (vs := [slv r118, slv x143]) rfl ?_))
 rintro _ H147 ⟨r146, rfl, h⟩
 obtain ⟨hle145, h⟩ := h
 refine GA.back hle145 (Zg 26 rfl (Yt hc142) (OV.not rfl) (Zp 27 rfl (OV.pickF rfl hc142 rfl) (GA.done (by kernel_rfl) ?_)))
 exact Yj I3 (!r146) h
 intro x121 H122 h
 replace h := hR123 x121 H122 h
 refine GL.nil (Yd h (fun hc148 h => ?_) fun hc148 h => ?_)
 refine Zo (Za (GL.nil ?_))
 exact Y1 I3 ⟨false, rfl, h⟩
 refine GC.skip (Zo (Za (GL.nil (GC.block (Yp h (fun x149 => [(25, .int .i64 x149), (0, slv p_l), (3, pv x33), (4, pv (some (b6, 0))), (5, .int .i64 x8.2), (24, slv r118)]) ?_)))))
 intro x149 H151 J150 h
 refine GC.seq (Zo (Zm (Zm (Zq (Zi (.bool (decide ((x149 : Int) < (Sl.len r118 : Int)))) (GL.nil (Yd h (fun hc152 h => ?_) fun hc152 h => ?_)))))))
 refine GC.skip (GC.seq (GC.block (GC.region (Zm (Zm (Yx h fun p153 h => ?_))))))
 refine Yl h fun x158 h => ?_
 refine Zc h QbI ?_
 rintro _ H160 ⟨rfl, h⟩
 refine GL.nil_to (fun _ _ h => h) (GC.region (Zm (Zi (.int .i64 (w .i64 (x149 + 1))) (Za ?_))))
 exact Yj I3 (w .i64 (x149 + 1)) h
 refine GC.exit_to (fun _ _ h => h) (GC.region (Zm (Zi (.int .i64 (w .i64 (x8.2 + 1))) (Za ?_))))
 exact Yj I3 (x33, (w .i64 (x8.2 + 1))) h
 refine GC.exit_to (fun _ _ h => h) (GC.seq ?_)
 obtain ⟨Hs161, hle162, h⟩ := h
 refine GC.any (Hs := Hs161) (by kernel_rfl) hle162 (Zp 0 rfl Ym (Zp 2 rfl Ym (Zp 3 rfl (OV.nilCheck (q := some (b6, 0)) rfl rfl) (Zp 4 rfl Yf ?_))))
 obtain ⟨x163, v164, h⟩ := h
 refine Zp 5 rfl (Yo v164) (GA.eff 1 rfl (by kernel_rfl) (Zc h Qcy ?_))
 rintro _ H167 ⟨r166, rfl, h⟩
 obtain ⟨hle165, h⟩ := h
 refine GA.back hle165 (GA.eff 6 rfl (by kernel_rfl) (Zc h QbE ?_))
 rintro _ H170 ⟨r169, rfl, h⟩
 obtain ⟨hle168, h⟩ := h
 refine GA.back hle168 (Zp 7 rfl Ya (GA.done (by kernel_rfl) (GL.nil ?_)))
 exact Y1 I3 ⟨r169, rfl, h⟩
def QeW (C : Ctx) (p_l : Sl) (K : Int → Heap → Prop) (H : Heap) : Prop :=
 lp (α := Int × Int) ((Sl.len p_l : Int), 0) H (fun x1 J2 H3 =>
 ift ((decide ((x1.2 : Int) < (Sl.len p_l : Int))) && (decide ((x1.1 : Int) < 9000)))
 (dr H3 fun Hs6 =>
 ixa p_l x1.2 fun p8 =>
 ldL Hs6 ((p8.1, p8.2 + (x1.2 : Int).toNat * 4).1, (p8.1, p8.2 + (x1.2 : Int).toNat * 4).2 + 3) fun x13 =>
 ixa p_l x1.2 fun p15 =>
 ldS Hs6 ((p15.1, p15.2 + (x1.2 : Int).toNat * 4).1, (p15.1, p15.2 + (x1.2 : Int).toNat * 4).2 + 2) fun x20 =>
 QO C x13 (fun r23 H24 =>
 Heap.le Hs6 H24 ∧
 J2 ((w .i64 ((w .i64 (x1.1 + r23)) + (w .i64 (Int.tdiv (List.length x20 : Int) 64)))), (w .i64 (x1.2 + 1))) H24) H3)
 (K x1.1 H3))
theorem QhQ (C p_l K H) (h : QeW C p_l K H) : QO C p_l K H := by
 refine Ye Tryz.func7 rfl Tryz.ntmps7 [(0, slv p_l)] (Zo (Za (GL.nil (Zo (Zm (Zq (Za (GL.nil (GC.seq (Zo (Za (GL.nil (GC.block (Yp h (fun x1 => [(3, .int .i64 x1.1), (4, .int .i64 x1.2), (0, slv p_l)]) ?_))))))))))))))
 intro x1 H3 J2 h
 refine GC.seq (Zo (Zm (Zm (Zq (Zi (.bool (decide ((x1.2 : Int) < (Sl.len p_l : Int)))) (Zm (GL.cut0 3 [(14, .bool ((decide ((x1.2 : Int) < (Sl.len p_l : Int))) && (decide ((x1.1 : Int) < 9000)))), (0, slv p_l), (3, .int .i64 x1.1), (4, .int .i64 x1.2)] ?_ ?_)))))))
 rcases Zb (decide ((x1.2 : Int) < (Sl.len p_l : Int))) with u4 | u4
 refine Zu u4 Ym (Zu u4 (OV.ibin (v := .bool (decide ((x1.1 : Int) < 9000))) rfl rfl rfl) (Zt u4 ?_))
 exact GL.jump0 (fun _ _ h => h) () rfl ⟨(by rw [u4]; rfl), rfl, rfl, rfl, trivial⟩
 refine Zk u4 (Zk u4 (Zn u4 ?_))
 exact GL.jump0 (fun _ _ h => h) () rfl ⟨(by rw [u4]; rfl), rfl, rfl, rfl, trivial⟩
 refine GL.nil (Yd h (fun u5 h => ?_) fun u5 h => ?_)
 refine GC.skip (GC.seq (GC.block ?_))
 obtain ⟨Hs6, hle7, h⟩ := h
 refine GC.any (Hs := Hs6) (by kernel_rfl) hle7 (Zp 0 rfl Ym (Zp 1 rfl Ym (Zp 2 rfl Ym ?_)))
 obtain ⟨p8, ha9, hb10, u11, hd12, h⟩ := h
 refine Zp 3 rfl (OV.indexAddr rfl rfl rfl rfl ha9 hb10 u11 hd12) (Zp 4 rfl Yf ?_)
 obtain ⟨x13, v14, h⟩ := h
 refine Zp 5 rfl (Yo v14) (Zp 8 rfl Ym (Zp 9 rfl Ym ?_))
 obtain ⟨p15, ha16, hb17, u18, hd19, h⟩ := h
 refine Zp 10 rfl (OV.indexAddr rfl rfl rfl rfl ha16 hb17 u18 hd19) (Zp 11 rfl Yf ?_)
 obtain ⟨x20, v21, h⟩ := h
 refine Zp 12 rfl (Yo v21) (Zp 13 rfl (OV.lenStr rfl rfl) (Zp 14 rfl (OV.quo rfl rfl (by decide)) (GA.eff 6 rfl (by kernel_rfl) (Zc h QeM ?_))))
 rintro _ H24 ⟨r23, rfl, h⟩
 obtain ⟨hle22, h⟩ := h
 refine GA.back hle22 (Zp 7 rfl (OV.ibin (v := .int .i64 (w .i64 (x1.1 + r23))) rfl rfl rfl) (Zp 15 rfl (OV.ibin (v := .int .i64 (w .i64 ((w .i64 (x1.1 + r23)) + (w .i64 (Int.tdiv (List.length x20 : Int) 64))))) rfl rfl rfl) (Zp 16 rfl Ya (GA.done (by kernel_rfl) (GL.nil_to (fun _ _ h => h) (GC.region (Zm (Zi (.int .i64 (w .i64 (x1.2 + 1))) (Za ?_)))))))))
 exact Yj I3 ((w .i64 ((w .i64 (x1.1 + r23)) + (w .i64 (Int.tdiv (List.length x20 : Int) 64)))), (w .i64 (x1.2 + 1))) h
 refine GC.exit_to (fun _ _ h => h) (Zo (Zm (Za (GL.nil ?_))))
 exact Y1 I3 ⟨x1.1, rfl, h⟩
end
section
set_option maxRecDepth 100000
open Go Go.Proofs
def Qgx (C : Ctx) (K : Option (Nat × Nat) → Heap → Prop) (H : Heap) : Prop :=
 mkM (fun b1 H2 =>
 mkM (fun b3 H4 =>
 nw (Qc.c (⟨(some b1), (some b3)⟩ : Qc)) (fun b5 H6 =>
 K (some (b5, 0)) H6) H4) H2) H
theorem Qje (C : Ctx) (K : Option (Nat × Nat) → Heap → Prop) (H : Heap) (h : Qgx C  K H) : Qdz C  K H := by
 refine Spec.enter Tryz.func9 rfl Tryz.ntmps9 rfl (GC.sub [] trivial (Zo (Za (GL.nil (Zo (GL.makeMap h trivial rfl ?_))))))
 intro b1 H2 h
 refine GL.makeMap h trivial rfl ?_
 intro b3 H4 h
 refine Zv (OV.build (vs := [(0, mv (some b1)), (1, mv (some b3))]) (v := .agg (Qc.c (⟨(some b1), (some b3)⟩ : Qc)).toArray) rfl (fun _ => by kernel_rfl)) (GL.box (v := .agg (Qc.c (⟨(some b1), (some b3)⟩ : Qc)).toArray) (cs := Qc.c (⟨(some b1), (some b3)⟩ : Qc)) h trivial rfl rfl rfl ?_)
 intro b5 H6 h
 refine Za (GL.nil ?_)
 exact Y1 I3 ⟨(some (b5, 0)), rfl, h⟩
def QcM (C : Ctx) (p_x : Option (Nat × Nat)) (p_l : Sl) (K : Bool → Int → Heap → Prop) (H : Heap) : Prop :=
 ift (Option.isNone p_x)
 (K false 2 H)
 (Qa8 C p_l (fun r2 r3 H4 =>
 ift (!r3)
 (K false 4 H4)
 (nck p_x fun p6 =>
 ldM H4 (p6.1, p6.2 + 0) fun x8 =>
 lkM (fun x : Sl => (slv x : Value)) Sl.nil x8 r2 (fun x10 is11 =>
 ift is11
 (K false 0 H4)
 (QZ C p_l (fun r14 H15 =>
 nck p_x fun p16 =>
 ldM H15 (p16.1, p16.2 + 0) fun x18 =>
 upS (fun x : Sl => (slv x : Value)) x18 r2 r14 (fun H20 =>
 nck p_x fun p21 =>
 ldM H20 (p21.1, p21.2 + 1) fun x23 =>
 rgM (fun x : Option (Nat × Nat) => (pv x : Value)) x23 (fun b25 H26 =>
 lp (α := Unit) () H26 (fun x27 J28 H29 =>
 nxB (fun x : Option (Nat × Nat) => (pv x : Value)) b25 (fun b30 H31 =>
 ift b30
 (enM (fun x : Option (Nat × Nat) => (pv x : Value)) b25 (fun k33 x34 =>
 Qab C x34 r2 r14 (fun H36 =>
 J28 () H36) H31) H31)
 (K true 0 H31)) H29)) H20) H15) H4)) H4)) H)
theorem Qfq (C p_x p_l K H) (h : QcM C p_x p_l K H) : Qr C p_x p_l K H := by
 refine Ye Tryz.func10 rfl Tryz.ntmps10 [(0, pv p_x), (1, slv p_l)] (Zo (Za (Za (GL.nil (GC.seq (Zo (Zm (Zv (OV.eqlNil (p := p_x) rfl rfl rfl) (GL.nil (Yd h (fun u1 h => ?_) fun u1 h => ?_))))))))))
 refine Zo (Za (Za (GL.nil ?_)))
 exact Y2 I3 ⟨false, 2, rfl, h⟩
 refine GC.skip (Zo (Zm (Zc h QbO ?_)))
 rintro _ H4 ⟨r2, r3, rfl, h⟩
 refine Zm (Yv (sv r2) rfl rfl (Yv (.bool r3) rfl rfl (Za (Za (GL.nil (GC.seq (Zo (Zm (Zv (OV.not rfl) (GL.nil (Yd h (fun u5 h => ?_) fun u5 h => ?_)))))))))))
 refine Zo (Za (Za (GL.nil ?_)))
 exact Y2 I3 ⟨false, 4, rfl, h⟩
 refine GC.skip (GC.seq (Zo (Zm ?_)))
 obtain ⟨p6, hp7, h⟩ := h
 refine Zv (OV.nilCheck (q := p_x) rfl hp7) (Zf (Yl h fun x8 h => ?_))
 refine Zm ?_
 obtain ⟨x10, is11, v12, h⟩ := h
 refine Zv (OV.lookup2 (v := .tuple #[slv x10, .bool is11]) (enc := (fun x : Sl => (slv x : Value))) (z := Sl.nil) (q := x8) (k := r2) (x := x10) (b := is11) rfl v12 rfl rfl rfl rfl rfl) (Zm (Yv (slv x10) rfl rfl (Yv (.bool is11) rfl rfl (Za (Za (GL.nil (Zo (Zm (GL.nil (Yd h (fun u13 h => ?_) fun u13 h => ?_))))))))))
 refine Zo (Za (Za (GL.nil ?_)))
 exact Y2 I3 ⟨false, 0, rfl, h⟩
 refine GC.skip (Zo (Zm (Zc h Qc4 ?_)))
 rintro _ H15 ⟨r14, rfl, h⟩
 refine Za (GL.nil (Zo (Zm ?_)))
 obtain ⟨p16, hp17, h⟩ := h
 refine Zv (OV.nilCheck (q := p_x) rfl hp17) (Zf (Yl h fun x18 h => ?_))
 refine Zm (Zm (GL.mapUpdateS (enc := (fun x : Sl => (slv x : Value))) (q := x18) (k := r2) (x := r14) h trivial rfl rfl rfl rfl rfl ?_))
 intro H20 h
 refine GL.nil (GC.seq (Zo (Zm ?_)))
 obtain ⟨p21, hp22, h⟩ := h
 refine Zv (OV.nilCheck (q := p_x) rfl hp22) (Zf (Yl h fun x23 h => ?_))
 refine GL.rangeQ (enc := (fun x : Option (Nat × Nat) => (pv x : Value))) (q := x23) h trivial rfl rfl rfl ?_
 intro b25 H26 h
 refine GL.nil (GC.block (Yp h (fun _ => [(1, slv r14), (6, sv r2), (43, pv (some (b25, 0)))]) ?_))
 intro x27 H29 J28 h
 refine Zo (GL.nextB (enc := (fun x : Option (Nat × Nat) => (pv x : Value))) (it := b25) h trivial rfl rfl rfl rfl rfl ?_)
 intro b30 H31 h
 refine GL.nil (GC.seq (Yd h (fun u32 h => ?_) fun u32 h => ?_))
 refine GC.skip (GC.block (Zo ?_))
 obtain ⟨k33, x34, v35, h⟩ := h
 refine Zv (OV.entryM (enc := (fun x : Option (Nat × Nat) => (pv x : Value))) (it := b25) (k := k33) (x := x34) (v := .tuple #[sv k33, pv x34]) rfl v35 rfl) (Yv (pv x34) rfl rfl (Za (GL.nil (GC.region (Zm (Zm (Zm (Zc h Qeh ?_))))))))
 rintro _ H36 ⟨rfl, h⟩
 exact Yj I3 () h
 refine GC.exit_to (fun _ _ h => h) (Zo (Za (Za (GL.nil ?_))))
 exact Y2 I3 ⟨true, 0, rfl, h⟩
def Qcn (C : Ctx) (p_x : Option (Nat × Nat)) (p_places : Sl) (p_values : Sl) (K : Sl → Int → Heap → Prop) (H : Heap) : Prop :=
 ift (Option.isNone p_x)
 (K Sl.nil 2 H)
 (ift (((Sl.len p_places : Int) : Int) != (Sl.len p_values : Int))
 (K Sl.nil 1 H)
 (Qa8 C p_values (fun r3 r4 H5 =>
 ift (!r4)
 (K Sl.nil 0 H5)
 (lp (α := Sl × Int) (Sl.nil, 0) H5 (fun x7 J8 H9 =>
 ift (decide ((x7.2 : Int) < (Sl.len p_places : Int)))
 (ixa p_places x7.2 fun p11 =>
 ldI H9 .i64 (p11.1, p11.2 + (x7.2 : Int).toNat * 1) fun x16 =>
 Qau C x16 (fun r18 H19 =>
 apd ([sv []]) 16 x7.1 ([sv r18]) 1 (fun r20 H21 =>
 J8 (r20, (w .i64 (x7.2 + 1))) H21) H19) H9)
 (Qc0 C x7.1 [32] (fun r22 H23 =>
 nck p_x fun p24 =>
 ldM H23 (p24.1, p24.2 + 1) fun x26 =>
 lkM (fun x : Option (Nat × Nat) => (pv x : Value)) none x26 r22 (fun x28 is29 =>
 jn (α := Option (Nat × Nat)) (fun x32 H33 =>
 nck x32 fun p63 =>
 ldM H33 (p63.1, p63.2 + 1) fun x65 =>
 lkM (fun x : Option Nat => (mv x : Value)) none x65 r3 (fun x67 is68 =>
 Qai C x67 (fun r70 H71 =>
 K r70 0 H71) H33) H33)
 (fun J31 => ift (Option.isNone x28)
 (QW C p_places (fun r36 H37 =>
 mkM (fun b38 H39 =>
 nw (Ql.c (⟨r36, (some b38)⟩ : Ql)) (fun b40 H41 =>
 nck p_x fun p42 =>
 ldM H41 (p42.1, p42.2 + 0) fun x44 =>
 rgM (fun x : Sl => (slv x : Value)) x44 (fun b46 H47 =>
 lp (α := Unit) () H47 (fun x48 J49 H50 =>
 nxB (fun x : Sl => (slv x : Value)) b46 (fun b51 H52 =>
 ift b51
 (enM (fun x : Sl => (slv x : Value)) b46 (fun k54 x55 =>
 Qab C (some (b40, 0)) k54 x55 (fun H57 =>
 J49 () H57) H52) H52)
 (nck p_x fun p58 =>
 ldM H52 (p58.1, p58.2 + 1) fun x60 =>
 upS (fun x : Option (Nat × Nat) => (pv x : Value)) x60 r22 (some (b40, 0)) (fun H62 =>
 J31 (some (b40, 0)) H62) H52)) H50)) H41) H39) H37) H23)
 (J31 x28 H23))) H23) H9)))) H))
theorem Qe7 (C p_x p_places p_values K H) (h : Qcn C p_x p_places p_values K H) : QK C p_x p_places p_values K H := by
 refine Ye Tryz.func11 rfl Tryz.ntmps11 [(0, pv p_x), (1, slv p_places), (2, slv p_values)] (Zo (Za (Za (GL.nil (GC.seq (GC.block (Zo (Zm (Zv (OV.eqlNil (p := p_x) rfl rfl rfl) (Za (GL.nil (Yd h (fun u1 h => ?_) fun u1 h => ?_))))))))))))
 refine Zo (Za (Za (GL.nil ?_)))
 exact Y2 I3 ⟨Sl.nil, 2, rfl, h⟩
 refine Zo (Zm (Zq (Zm (Zq (Zi (.bool (((Sl.len p_places : Int) : Int) != (Sl.len p_values : Int))) (Za (GL.nil (Yd h (fun u2 h => ?_) fun u2 h => ?_))))))))
 refine Zo (Za (Za (GL.nil ?_)))
 exact Y2 I3 ⟨Sl.nil, 1, rfl, h⟩
 refine GC.skip_to (fun _ _ h => h) (Zo (Zm (Zc h QbO ?_)))
 rintro _ H5 ⟨r3, r4, rfl, h⟩
 refine Zm (Yv (sv r3) rfl rfl (Yv (.bool r4) rfl rfl (Za (Za (GL.nil (GC.seq (Zo (Zm (Zv (OV.not rfl) (GL.nil (Yd h (fun u6 h => ?_) fun u6 h => ?_)))))))))))
 refine Zo (Za (Za (GL.nil ?_)))
 exact Y2 I3 ⟨Sl.nil, 0, rfl, h⟩
 refine GC.skip (Zo (Za (GL.nil (GC.seq (Zo (Zm (Zq (Zm (GL.nil (GC.block (Yp h (fun x7 => [(10, slv x7.1), (35, .int .i64 x7.2), (0, pv p_x), (1, slv p_places), (8, sv r3), (33, slv p_places), (34, .int .i64 (Sl.len p_places : Int))]) ?_)))))))))))
 intro x7 H9 J8 h
 refine Zo (Zi (.bool (decide ((x7.2 : Int) < (Sl.len p_places : Int)))) (GL.nil (GC.seq (Yd h (fun u10 h => ?_) fun u10 h => ?_))))
 refine GC.skip (GC.seq (GC.block (Zo (Yx h fun p11 h => ?_))))
 refine Yl h fun x16 h => ?_
 refine Za (GL.nil (GC.region (Zm (Zm (Zc h Qht ?_)))))
 rintro _ H19 ⟨r18, rfl, h⟩
 refine GL.appendLit (s := x7.1) (ys := [sv r18]) (zc := [sv []]) (bytes := 16) h trivial rfl (fun _ => trivial) rfl (fun _ => rfl) (fun _ => rfl) (vs := [(0, sv r18)]) rfl ⟨9, fun _ => by kernel_rfl⟩ ⟨⟨_, _, _, rfl, rfl, rfl, rfl, rfl, rfl⟩⟩ rfl rfl ?_
 intro _ r20 H21 h
 refine Za (GL.nil_to (fun _ _ h => h) (GC.region (Zi (.int .i64 (w .i64 (x7.2 + 1))) (Zm ?_))))
 exact Yj I3 (r20, (w .i64 (x7.2 + 1))) h
 refine GC.exit_to (fun _ _ h => h) (Zo (Zm (Zc h Qhu ?_)))
 rintro _ H23 ⟨r22, rfl, h⟩
 refine Za (GL.nil (Zo (Zm ?_)))
 obtain ⟨p24, hp25, h⟩ := h
 refine Zv (OV.nilCheck (q := p_x) rfl hp25) (Zf (Yl h fun x26 h => ?_))
 refine Zm ?_
 obtain ⟨x28, is29, v30, h⟩ := h
 refine Zv (OV.lookup1 (v := pv x28) (enc := (fun x : Option (Nat × Nat) => (pv x : Value))) (z := none) (q := x26) (k := r22) (x := x28) (b := is29) rfl v30 rfl rfl rfl rfl rfl) (Za (GL.nil ?_))
 obtain ⟨J31, h, hR34⟩ := h
 refine GC.join (α := Option (Nat × Nat)) J31 (fun x32 => [(14, pv x32), (8, sv r3)]) ?_ ?_
 refine Zo (Zm (Zv (OV.eqlNil (p := x28) rfl rfl rfl) (GL.nil (Yd h (fun u35 h => ?_) fun u35 h => ?_))))
 refine Zo (Zm (Zc h QdL ?_))
 rintro _ H37 ⟨r36, rfl, h⟩
 refine GL.makeMap h trivial rfl ?_
 intro b38 H39 h
 refine Zv (OV.build (vs := [(0, slv r36), (1, mv (some b38))]) (v := .agg (Ql.c (⟨r36, (some b38)⟩ : Ql)).toArray) rfl (fun _ => by kernel_rfl)) (GL.box (v := .agg (Ql.c (⟨r36, (some b38)⟩ : Ql)).toArray) (cs := Ql.c (⟨r36, (some b38)⟩ : Ql)) h trivial rfl rfl rfl ?_)
 intro b40 H41 h
 refine Za (GL.nil (GC.seq (Zo (Zm ?_))))
 obtain ⟨p42, hp43, h⟩ := h
 refine Zv (OV.nilCheck (q := p_x) rfl hp43) (Zf (Yl h fun x44 h => ?_))
 refine GL.rangeQ (enc := (fun x : Sl => (slv x : Value))) (q := x44) h trivial rfl rfl rfl ?_
 intro b46 H47 h
 refine GL.nil (GC.block (Yp h (fun _ => [(0, pv p_x), (8, sv r3), (13, sv r22), (14, pv (some (b40, 0))), (64, pv (some (b46, 0)))]) ?_))
 intro x48 H50 J49 h
 refine Zo (GL.nextB (enc := (fun x : Sl => (slv x : Value))) (it := b46) h trivial rfl rfl rfl rfl rfl ?_)
 intro b51 H52 h
 refine GL.nil (GC.seq (Yd h (fun u53 h => ?_) fun u53 h => ?_))
 refine GC.skip (GC.block (Zo ?_))
 obtain ⟨k54, x55, v56, h⟩ := h
 refine Zv (OV.entryM (enc := (fun x : Sl => (slv x : Value))) (it := b46) (k := k54) (x := x55) (v := .tuple #[sv k54, slv x55]) rfl v56 rfl) (Yv (sv k54) rfl rfl (Yv (slv x55) rfl rfl (Za (Za (GL.nil (GC.region (Zm (Zm (Zm (Zc h Qeh ?_))))))))))
 rintro _ H57 ⟨rfl, h⟩
 exact Yj I3 () h
 refine GC.exit_to (fun _ _ h => h) (GC.region (Zm ?_))
 obtain ⟨p58, hp59, h⟩ := h
 refine Zv (OV.nilCheck (q := p_x) rfl hp59) (Zf (Yl h fun x60 h => ?_))
 refine Zm (Zm (GL.mapUpdateS (enc := (fun x : Option (Nat × Nat) => (pv x : Value))) (q := x60) (k := r22) (x := (some (b40, 0))) h trivial rfl rfl rfl rfl rfl ?_))
 intro H62 h
 exact Yj I3 (some (b40, 0)) h
 exact Yk I3 x28 h
 intro x32 H33 h
 replace h := hR34 x32 H33 h
 refine Zo (Zm ?_)
 obtain ⟨p63, hp64, h⟩ := h
 refine Zv (OV.nilCheck (q := x32) rfl hp64) (Zf (Yl h fun x65 h => ?_))
 refine Zm ?_
 obtain ⟨x67, is68, v69, h⟩ := h
 refine Zv (OV.lookup1 (v := mv x67) (enc := (fun x : Option Nat => (mv x : Value))) (z := none) (q := x65) (k := r3) (x := x67) (b := is68) rfl v69 rfl rfl rfl rfl rfl) (Zc h QfG ?_)
 rintro _ H71 ⟨r70, rfl, h⟩
 refine Za (Za (GL.nil ?_))
 exact Y2 I3 ⟨r70, 0, rfl, h⟩
def QeX (C : Ctx) (p_v : Qa) (K : Int → Heap → Prop) (H : Heap) : Prop :=
 nw (Qa.c p_v) (fun b1 H2 =>
 ldT H2 Qa.c (b1, 0) fun x3 =>
 QP C x3 (fun r5 H6 =>
 ift (decide ((r5 : Int) > 64))
 (K 65 H6)
 (ldT H6 Qa.c (b1, 0) fun x8 =>
 Q4 C x8 (fun r10 H11 =>
 ift (!r10)
 (K 4 H11)
 (ldT H11 Qa.c (b1, 0) fun x13 =>
 Q3 C x13 (fun r15 H16 =>
 ift (!r15)
 (K 40 H16)
 (K 0 H16)) H11)) H6)) H2) H
theorem QhR (C p_v K H) (h : QeX C p_v K H) : Q2 C p_v K H := by
 refine Ye Tryz.func12 rfl Tryz.ntmps12 [(0, .agg (Qa.c p_v).toArray)] (Zo (GL.box (v := .agg (Qa.c p_v).toArray) (cs := Qa.c p_v) h trivial rfl rfl rfl ?_))
 intro b1 H2 h
 refine Za (GL.nil (GC.seq (Zo ?_)))
 obtain ⟨x3, v4, h⟩ := h
 refine Zv (OV.loadT rfl rfl rfl v4) (Zc h QeO ?_)
 rintro _ H6 ⟨r5, rfl, h⟩
 refine Zi (.bool (decide ((r5 : Int) > 64))) (GL.nil (Yd h (fun u7 h => ?_) fun u7 h => ?_))
 refine Zo (Za (GL.nil ?_))
 exact Y1 I3 ⟨65, rfl, h⟩
 refine GC.skip (GC.seq (Zo ?_))
 obtain ⟨x8, v9, h⟩ := h
 refine Zv (OV.loadT rfl rfl rfl v9) (Zc h QfL ?_)
 rintro _ H11 ⟨r10, rfl, h⟩
 refine Zv (OV.not rfl) (GL.nil (Yd h (fun u12 h => ?_) fun u12 h => ?_))
 refine Zo (Za (GL.nil ?_))
 exact Y1 I3 ⟨4, rfl, h⟩
 refine GC.skip (GC.seq (Zo ?_))
 obtain ⟨x13, v14, h⟩ := h
 refine Zv (OV.loadT rfl rfl rfl v14) (Zc h QfK ?_)
 rintro _ H16 ⟨r15, rfl, h⟩
 refine Zv (OV.not rfl) (GL.nil (Yd h (fun u17 h => ?_) fun u17 h => ?_))
 refine Zo (Za (GL.nil ?_))
 exact Y1 I3 ⟨40, rfl, h⟩
 refine GC.skip (Zo (Za (GL.nil ?_)))
 exact Y1 I3 ⟨0, rfl, h⟩
def QfX (C : Ctx) (p_a : Qa) (p_b : Qa) (K : Bool → Heap → Prop) (H : Heap) : Prop :=
 nw (Qa.c p_a) (fun b1 H2 =>
 nw (Qa.c p_b) (fun b3 H4 =>
 ldI H4 .u8 ((b1, 0).1, (b1, 0).2 + 0) fun x5 =>
 ldI H4 .u8 ((b3, 0).1, (b3, 0).2 + 0) fun x7 =>
 jn (α := Bool) (fun b9 H17 =>
 jn (α := Bool) (fun b18 H26 =>
 jn (α := Bool) (fun b27 H37 =>
 K b27 H37)
 (fun J28 => ift b18
 (ldL H26 ((b1, 0).1, (b1, 0).2 + 3) fun x31 =>
 ldL H26 ((b3, 0).1, (b3, 0).2 + 3) fun x33 =>
 QU C x31 x33 (fun r35 H36 =>
 J28 r35 H36) H26)
 (J28 false H26)))
 (fun J19 => ift b9
 (ldS H17 ((b1, 0).1, (b1, 0).2 + 2) fun x22 =>
 ldS H17 ((b3, 0).1, (b3, 0).2 + 2) fun x24 =>
 J19 (x22 == x24) H17)
 (J19 false H17)))
 (fun J10 => ift ((x5 : Int) == x7)
 (ldI H4 .i64 ((b1, 0).1, (b1, 0).2 + 1) fun x13 =>
 ldI H4 .i64 ((b3, 0).1, (b3, 0).2 + 1) fun x15 =>
 J10 ((x13 : Int) == x15) H4)
 (J10 false H4))) H2) H
theorem Qiv (C p_a p_b K H) (h : QfX C p_a p_b K H) : QT C p_a p_b K H := by
 refine Ye Tryz.func13 rfl Tryz.ntmps13 [(0, .agg (Qa.c p_a).toArray), (1, .agg (Qa.c p_b).toArray)] (Zo (GL.box (v := .agg (Qa.c p_a).toArray) (cs := Qa.c p_a) h trivial rfl rfl rfl ?_))
 intro b1 H2 h
 refine GL.box (v := .agg (Qa.c p_b).toArray) (cs := Qa.c p_b) h trivial rfl rfl rfl ?_
 intro b3 H4 h
 refine Za (GL.nil (Zo (Zf (Yl h fun x5 h => ?_))))
 refine Zf (Yl h fun x7 h => ?_)
 refine Zi (.bool ((x5 : Int) == x7)) (Zm ?_)
 obtain ⟨J10, h, hR11⟩ := h
 refine GL.cut (α := Bool) 6 J10 (fun b9 => [(16, .bool b9), (2, pv (some (b1, 0))), (3, pv (some (b3, 0)))]) ?_ ?_
 rcases h.em with ⟨u12, h⟩ | ⟨u12, h⟩
 refine Zu u12 Yf ?_
 obtain ⟨x13, v14, h⟩ := h
 refine Zu u12 (Yo v14) (Zu u12 Yf ?_)
 obtain ⟨x15, v16, h⟩ := h
 refine Zu u12 (Yo v16) (Zu u12 (OV.ibin (v := .bool ((x13 : Int) == x15)) rfl rfl rfl) (Zt u12 ?_))
 exact Yj I3 ((x13 : Int) == x15) h
 refine Zk u12 (Zk u12 (Zk u12 (Zk u12 (Zk u12 (Zn u12 ?_)))))
 exact Yj I3 false h
 intro b9 H17 h
 replace h := hR11 b9 H17 h
 refine Zm ?_
 obtain ⟨J19, h, hR20⟩ := h
 refine GL.cut (α := Bool) 6 J19 (fun b18 => [(23, .bool b18), (2, pv (some (b1, 0))), (3, pv (some (b3, 0)))]) ?_ ?_
 rcases h.em with ⟨u21, h⟩ | ⟨u21, h⟩
 refine Zu u21 Yf ?_
 obtain ⟨x22, v23, h⟩ := h
 refine Zu u21 (Yo v23) (Zu u21 Yf ?_)
 obtain ⟨x24, v25, h⟩ := h
 refine Zu u21 (Yo v25) (Zu u21 (OV.sbin (a := x22) (b := x24) (v := .bool (x22 == x24)) rfl rfl rfl) (Zt u21 ?_))
 exact Yj I3 (x22 == x24) h
 refine Zk u21 (Zk u21 (Zk u21 (Zk u21 (Zk u21 (Zn u21 ?_)))))
 exact Yj I3 false h
 intro b18 H26 h
 replace h := hR20 b18 H26 h
 refine Zm ?_
 obtain ⟨J28, h, hR29⟩ := h
 refine GL.cut (α := Bool) 6 J28 (fun b27 => [(30, .bool b27)]) ?_ ?_
 rcases h.em with ⟨u30, h⟩ | ⟨u30, h⟩
 refine Zu u30 Yf ?_
 obtain ⟨x31, v32, h⟩ := h
 refine Zu u30 (Yo v32) (Zu u30 Yf ?_)
 obtain ⟨x33, v34, h⟩ := h
 refine Zu u30 (Yo v34) (GL.call h (Yt u30) rfl Qa5 (vs := [slv x31, slv x33]) rfl ?_)
 rintro _ H36 ⟨r35, rfl, h⟩
 refine Zt u30 ?_
 exact Yj I3 r35 h
 refine Zk u30 (Zk u30 (Zk u30 (Zk u30 (Zk u30 (Zn u30 ?_)))))
 exact Yj I3 false h
 intro b27 H37 h
 replace h := hR29 b27 H37 h
 refine Za (GL.nil ?_)
 exact Y1 I3 ⟨b27, rfl, h⟩
def Qd7 (C : Ctx) (p_a : Sl) (p_b : Sl) (K : Bool → Heap → Prop) (H : Heap) : Prop :=
 ift (((Sl.len p_a : Int) : Int) != (Sl.len p_b : Int))
 (K false H)
 (lp (α := Int) 0 H (fun x2 J3 H4 =>
 ift (decide ((x2 : Int) < (Sl.len p_a : Int)))
 (dr H4 fun Hs6 =>
 ixa p_a x2 fun p8 =>
 ldT Hs6 Qa.c (p8.1, p8.2 + (x2 : Int).toNat * 4) fun x13 =>
 ixa p_b x2 fun p15 =>
 ldT Hs6 Qa.c (p15.1, p15.2 + (x2 : Int).toNat * 4) fun x20 =>
 QT C x13 x20 (fun r23 H24 =>
 Heap.le Hs6 H24 ∧
 ift (!r23)
 (K false H24)
 (J3 (w .i64 (x2 + 1)) H24)) H4)
 (K true H4)))
theorem QgL (C p_a p_b K H) (h : Qd7 C p_a p_b K H) : QU C p_a p_b K H := by
 refine Ye Tryz.func14 rfl Tryz.ntmps14 [(0, slv p_a), (1, slv p_b)] (Zo (Za (GL.nil (GC.seq (Zo (Zm (Zq (Zm (Zq (Zi (.bool (((Sl.len p_a : Int) : Int) != (Sl.len p_b : Int))) (GL.nil (Yd h (fun u1 h => ?_) fun u1 h => ?_))))))))))))
 refine Zo (Za (GL.nil ?_))
 exact Y1 I3 ⟨false, rfl, h⟩
 refine GC.skip (GC.seq (Zo (Za (GL.nil (GC.block (Yp h (fun x2 => [(5, .int .i64 x2), (0, slv p_a), (1, slv p_b)]) ?_))))))
 intro x2 H4 J3 h
 refine GC.seq (Zo (Zm (Zm (Zq (Zi (.bool (decide ((x2 : Int) < (Sl.len p_a : Int)))) (GL.nil (Yd h (fun u5 h => ?_) fun u5 h => ?_)))))))
 refine GC.skip (GC.seq (GC.block (GC.seq ?_)))
 obtain ⟨Hs6, hle7, h⟩ := h
 refine GC.any (Hs := Hs6) (by kernel_rfl) hle7 (Zp 0 rfl Ym (Zp 1 rfl Ym ?_))
 obtain ⟨p8, ha9, hb10, u11, hd12, h⟩ := h
 refine Zp 2 rfl (OV.indexAddr rfl rfl rfl rfl ha9 hb10 u11 hd12) ?_
 obtain ⟨x13, v14, h⟩ := h
 refine Zp 3 rfl (OV.loadT rfl rfl rfl v14) (Zp 4 rfl Ym (Zp 5 rfl Ym ?_))
 obtain ⟨p15, ha16, hb17, u18, hd19, h⟩ := h
 refine Zp 6 rfl (OV.indexAddr rfl rfl rfl rfl ha16 hb17 u18 hd19) ?_
 obtain ⟨x20, v21, h⟩ := h
 refine Zp 7 rfl (OV.loadT rfl rfl rfl v21) (GA.eff 8 rfl (by kernel_rfl) (Zc h QfJ ?_))
 rintro _ H24 ⟨r23, rfl, h⟩
 obtain ⟨hle22, h⟩ := h
 refine GA.back hle22 (Zp 9 rfl (OV.not rfl) (GA.done (by kernel_rfl) (GL.nil (Yd h (fun u25 h => ?_) fun u25 h => ?_))))
 refine Zo (Za (GL.nil ?_))
 exact Y1 I3 ⟨false, rfl, h⟩
 refine GC.skip_to (fun _ _ h => h) (GC.region (Zm (Zi (.int .i64 (w .i64 (x2 + 1))) (Za ?_))))
 exact Yj I3 (w .i64 (x2 + 1)) h
 refine GC.exit_to (fun _ _ h => h) (Zo (Za (GL.nil ?_)))
 exact Y1 I3 ⟨true, rfl, h⟩
def QgB (C : Ctx) (p_l : Sl) (K : Bool → Heap → Prop) (H : Heap) : Prop :=
 lp (α := Int) 0 H (fun x1 J2 H3 =>
 ift (decide ((x1 : Int) < (Sl.len p_l : Int)))
 (ixa p_l x1 fun p5 =>
 ldT H3 Qa.c (p5.1, p5.2 + (x1 : Int).toNat * 4) fun x10 =>
 Q2 C x10 (fun r12 H13 =>
 ift ((r12 : Int) != 0)
 (K false H13)
 (J2 (w .i64 (x1 + 1)) H13)) H3)
 (K true H3))
theorem Qji (C p_l K H) (h : QgB C p_l K H) : QbC C p_l K H := by
 refine Ye Tryz.func15 rfl Tryz.ntmps15 [(0, slv p_l)] (Zo (Za (GL.nil (GC.seq (Zo (Za (GL.nil (GC.block (Yp h (fun x1 => [(3, .int .i64 x1), (0, slv p_l)]) ?_)))))))))
 intro x1 H3 J2 h
 refine GC.seq (Zo (Zm (Zm (Zq (Zi (.bool (decide ((x1 : Int) < (Sl.len p_l : Int)))) (GL.nil (Yd h (fun u4 h => ?_) fun u4 h => ?_)))))))
 refine GC.skip (GC.seq (GC.block (Zo (Zm (Zm (Yx h fun p5 h => ?_))))))
 obtain ⟨x10, v11, h⟩ := h
 refine Zv (OV.loadT rfl rfl rfl v11) (Zc h QeN ?_)
 rintro _ H13 ⟨r12, rfl, h⟩
 refine Zi (.bool ((r12 : Int) != 0)) (GL.nil (Yd h (fun u14 h => ?_) fun u14 h => ?_))
 refine Zo (Za (GL.nil ?_))
 exact Y1 I3 ⟨false, rfl, h⟩
 refine GC.skip_to (fun _ _ h => h) (GC.region (Zm (Zi (.int .i64 (w .i64 (x1 + 1))) (Za ?_))))
 exact Yj I3 (w .i64 (x1 + 1)) h
 refine GC.exit_to (fun _ _ h => h) (Zo (Za (GL.nil ?_)))
 exact Y1 I3 ⟨true, rfl, h⟩
def QcK (C : Ctx) (p_x : Option (Nat × Nat)) (p_l : Sl) (K : Bool → Heap → Prop) (H : Heap) : Prop :=
 ift (Option.isNone p_x)
 (K false H)
 (Qa8 C p_l (fun r2 r3 H4 =>
 nck p_x fun p5 =>
 ldM H4 (p5.1, p5.2 + 0) fun x7 =>
 lkM (fun x : Sl => (slv x : Value)) Sl.nil x7 r2 (fun x9 is10 =>
 K (r3 && is10) H4) H4) H)
theorem Qfo (C p_x p_l K H) (h : QcK C p_x p_l K H) : QaP C p_x p_l K H := by
 refine Ye Tryz.func16 rfl Tryz.ntmps16 [(0, pv p_x), (1, slv p_l)] (Zo (Za (GL.nil (GC.seq (Zo (Zm (Zv (OV.eqlNil (p := p_x) rfl rfl rfl) (GL.nil (Yd h (fun u1 h => ?_) fun u1 h => ?_)))))))))
 refine Zo (Za (GL.nil ?_))
 exact Y1 I3 ⟨false, rfl, h⟩
 refine GC.skip (Zo (Zm (Zc h QbO ?_)))
 rintro _ H4 ⟨r2, r3, rfl, h⟩
 refine Zm (Yv (sv r2) rfl rfl (Yv (.bool r3) rfl rfl (Za (Za (GL.nil (Zo (Zm ?_)))))))
 obtain ⟨p5, hp6, h⟩ := h
 refine Zv (OV.nilCheck (q := p_x) rfl hp6) (Zf (Yl h fun x7 h => ?_))
 refine Zm ?_
 obtain ⟨x9, is10, v11, h⟩ := h
 refine Zv (OV.lookup2 (v := .tuple #[slv x9, .bool is10]) (enc := (fun x : Sl => (slv x : Value))) (z := Sl.nil) (q := x7) (k := r2) (x := x9) (b := is10) rfl v11 rfl rfl rfl rfl rfl) (Zm (Yv (slv x9) rfl rfl (Yv (.bool is10) rfl rfl (Za (Za (GL.nil (Zo (Zm (Zm (GL.cut0 2 [(28, .bool (r3 && is10))] ?_ ?_))))))))))
 rcases Bool.eq_false_or_eq_true r3 with u12 | u12
 refine Zu u12 Ym (Zt u12 ?_)
 exact GL.jump0 (fun _ _ h => h) () rfl ⟨(by rw [u12]; rfl), trivial⟩
 refine Zk u12 (Zn u12 ?_)
 exact GL.jump0 (fun _ _ h => h) () rfl ⟨(by rw [u12]; rfl), trivial⟩
 refine Za (GL.nil ?_)
 exact Y1 I3 ⟨(r3 && is10), rfl, h⟩
def QcJ (C : Ctx) (p_x : Option (Nat × Nat)) (p_l : Sl) (K : Bool → Int → Heap → Prop) (H : Heap) : Prop :=
 ift (Option.isNone p_x)
 (K false 2 H)
 (Qa8 C p_l (fun r2 r3 H4 =>
 ift (!r3)
 (K false 4 H4)
 (nck p_x fun p6 =>
 ldM H4 (p6.1, p6.2 + 0) fun x8 =>
 lkM (fun x : Sl => (slv x : Value)) Sl.nil x8 r2 (fun x10 is11 =>
 ift (!is11)
 (K false 0 H4)
 (nck p_x fun p14 =>
 ldM H4 (p14.1, p14.2 + 0) fun x16 =>
 delS (fun x : Sl => (slv x : Value)) x16 r2 (fun H18 =>
 nck p_x fun p19 =>
 ldM H18 (p19.1, p19.2 + 1) fun x21 =>
 rgM (fun x : Option (Nat × Nat) => (pv x : Value)) x21 (fun b23 H24 =>
 lp (α := Unit) () H24 (fun x25 J26 H27 =>
 nxB (fun x : Option (Nat × Nat) => (pv x : Value)) b23 (fun b28 H29 =>
 ift b28
 (enM (fun x : Option (Nat × Nat) => (pv x : Value)) b23 (fun k31 x32 =>
 Qbp C x32 p_l (fun r34 r35 H36 =>
 ift r35
 (nck x32 fun p38 =>
 ldM H36 (p38.1, p38.2 + 1) fun x40 =>
 lkM (fun x : Option Nat => (mv x : Value)) none x40 r34 (fun x42 is43 =>
 delS (fun x : Sl => (slv x : Value)) x42 r2 (fun H45 =>
 J26 () H45) H36) H36)
 (J26 () H36)) H29) H29)
 (K true 0 H29)) H27)) H18) H4)) H4)) H)
theorem Qfn (C p_x p_l K H) (h : QcJ C p_x p_l K H) : QG C p_x p_l K H := by
 refine Ye Tryz.func17 rfl Tryz.ntmps17 [(0, pv p_x), (1, slv p_l)] (Zo (Za (Za (GL.nil (GC.seq (Zo (Zm (Zv (OV.eqlNil (p := p_x) rfl rfl rfl) (GL.nil (Yd h (fun u1 h => ?_) fun u1 h => ?_))))))))))
 refine Zo (Za (Za (GL.nil ?_)))
 exact Y2 I3 ⟨false, 2, rfl, h⟩
 refine GC.skip (Zo (Zm (Zc h QbO ?_)))
 rintro _ H4 ⟨r2, r3, rfl, h⟩
 refine Zm (Yv (sv r2) rfl rfl (Yv (.bool r3) rfl rfl (Za (Za (GL.nil (GC.seq (Zo (Zm (Zv (OV.not rfl) (GL.nil (Yd h (fun u5 h => ?_) fun u5 h => ?_)))))))))))
 refine Zo (Za (Za (GL.nil ?_)))
 exact Y2 I3 ⟨false, 4, rfl, h⟩
 refine GC.skip (GC.seq (Zo (Zm ?_)))
 obtain ⟨p6, hp7, h⟩ := h
 refine Zv (OV.nilCheck (q := p_x) rfl hp7) (Zf (Yl h fun x8 h => ?_))
 refine Zm ?_
 obtain ⟨x10, is11, v12, h⟩ := h
 refine Zv (OV.lookup2 (v := .tuple #[slv x10, .bool is11]) (enc := (fun x : Sl => (slv x : Value))) (z := Sl.nil) (q := x8) (k := r2) (x := x10) (b := is11) rfl v12 rfl rfl rfl rfl rfl) (Zm (Yv (slv x10) rfl rfl (Yv (.bool is11) rfl rfl (Za (Za (GL.nil (Zo (Zm (Zv (OV.not rfl) (GL.nil (Yd h (fun u13 h => ?_) fun u13 h => ?_)))))))))))
 refine Zo (Za (Za (GL.nil ?_)))
 exact Y2 I3 ⟨false, 0, rfl, h⟩
 refine GC.skip (Zo (Zm ?_))
 obtain ⟨p14, hp15, h⟩ := h
 refine Zv (OV.nilCheck (q := p_x) rfl hp15) (Zf (Yl h fun x16 h => ?_))
 refine Zm (GL.deleteM (enc := (fun x : Sl => (slv x : Value))) (q := x16) (k := r2) h trivial rfl rfl rfl rfl ?_)
 intro H18 h
 refine GL.nil (GC.seq (Zo (Zm ?_)))
 obtain ⟨p19, hp20, h⟩ := h
 refine Zv (OV.nilCheck (q := p_x) rfl hp20) (Zf (Yl h fun x21 h => ?_))
 refine GL.rangeQ (enc := (fun x : Option (Nat × Nat) => (pv x : Value))) (q := x21) h trivial rfl rfl rfl ?_
 intro b23 H24 h
 refine GL.nil (GC.block (Yp h (fun _ => [(1, slv p_l), (6, sv r2), (43, pv (some (b23, 0)))]) ?_))
 intro x25 H27 J26 h
 refine Zo (GL.nextB (enc := (fun x : Option (Nat × Nat) => (pv x : Value))) (it := b23) h trivial rfl rfl rfl rfl rfl ?_)
 intro b28 H29 h
 refine GL.nil (GC.seq (Yd h (fun u30 h => ?_) fun u30 h => ?_))
 refine GC.skip (GC.block (Zo ?_))
 obtain ⟨k31, x32, v33, h⟩ := h
 refine Zv (OV.entryM (enc := (fun x : Option (Nat × Nat) => (pv x : Value))) (it := b23) (k := k31) (x := x32) (v := .tuple #[sv k31, pv x32]) rfl v33 rfl) (Yv (pv x32) rfl rfl (Za (GL.nil (Zo (Zm (Zm (Zc h QeL ?_)))))))
 rintro _ H36 ⟨r34, r35, rfl, h⟩
 refine Zm (Yv (sv r34) rfl rfl (Yv (.bool r35) rfl rfl (Za (Za (GL.nil (Zo (Zm (GL.nil (Yd h (fun u37 h => ?_) fun u37 h => ?_)))))))))
 refine GC.region (Zm ?_)
 obtain ⟨p38, hp39, h⟩ := h
 refine Zv (OV.nilCheck (q := x32) rfl hp39) (Zf (Yl h fun x40 h => ?_))
 refine Zm ?_
 obtain ⟨x42, is43, v44, h⟩ := h
 refine Zv (OV.lookup1 (v := mv x42) (enc := (fun x : Option Nat => (mv x : Value))) (z := none) (q := x40) (k := r34) (x := x42) (b := is43) rfl v44 rfl rfl rfl rfl rfl) (Zm (GL.deleteM (enc := (fun x : Sl => (slv x : Value))) (q := x42) (k := r2) h trivial rfl rfl rfl rfl ?_))
 intro H45 h
 exact Yj I3 () h
 exact Yk I3 () h
 refine GC.exit_to (fun _ _ h => h) (Zo (Za (Za (GL.nil ?_))))
 exact Y2 I3 ⟨true, 0, rfl, h⟩
def Qdn (C : Ctx) (p_a : Sl) (p_b : Sl) (K : Bool → Heap → Prop) (H : Heap) : Prop :=
 ift (((Sl.len p_a : Int) : Int) != (Sl.len p_b : Int))
 (K false H)
 (lp (α := Int) 0 H (fun x2 J3 H4 =>
 ift (decide ((x2 : Int) < (Sl.len p_a : Int)))
 (dr H4 fun Hs6 =>
 ixa p_a x2 fun p8 =>
 ldL Hs6 (p8.1, p8.2 + (x2 : Int).toNat * 1) fun x13 =>
 ixa p_b x2 fun p15 =>
 ldL Hs6 (p15.1, p15.2 + (x2 : Int).toNat * 1) fun x20 =>
 QU C x13 x20 (fun r23 H24 =>
 Heap.le Hs6 H24 ∧
 ift (!r23)
 (K false H24)
 (J3 (w .i64 (x2 + 1)) H24)) H4)
 (K true H4)))
theorem Qge (C p_a p_b K H) (h : Qdn C p_a p_b K H) : QY C p_a p_b K H := by
 refine Ye Tryz.func18 rfl Tryz.ntmps18 [(0, slv p_a), (1, slv p_b)] (Zo (Za (GL.nil (GC.seq (Zo (Zm (Zq (Zm (Zq (Zi (.bool (((Sl.len p_a : Int) : Int) != (Sl.len p_b : Int))) (GL.nil (Yd h (fun u1 h => ?_) fun u1 h => ?_))))))))))))
 refine Zo (Za (GL.nil ?_))
 exact Y1 I3 ⟨false, rfl, h⟩
 refine GC.skip (GC.seq (Zo (Za (GL.nil (GC.block (Yp h (fun x2 => [(5, .int .i64 x2), (0, slv p_a), (1, slv p_b)]) ?_))))))
 intro x2 H4 J3 h
 refine GC.seq (Zo (Zm (Zm (Zq (Zi (.bool (decide ((x2 : Int) < (Sl.len p_a : Int)))) (GL.nil (Yd h (fun u5 h => ?_) fun u5 h => ?_)))))))
 refine GC.skip (GC.seq (GC.block (GC.seq ?_)))
 obtain ⟨Hs6, hle7, h⟩ := h
 refine GC.any (Hs := Hs6) (by kernel_rfl) hle7 (Zp 0 rfl Ym (Zp 1 rfl Ym ?_))
 obtain ⟨p8, ha9, hb10, u11, hd12, h⟩ := h
 refine Zp 2 rfl (OV.indexAddr rfl rfl rfl rfl ha9 hb10 u11 hd12) ?_
 obtain ⟨x13, v14, h⟩ := h
 refine Zp 3 rfl (Yo v14) (Zp 4 rfl Ym (Zp 5 rfl Ym ?_))
 obtain ⟨p15, ha16, hb17, u18, hd19, h⟩ := h
 refine Zp 6 rfl (OV.indexAddr rfl rfl rfl rfl ha16 hb17 u18 hd19) ?_
 obtain ⟨x20, v21, h⟩ := h
 refine Zp 7 rfl (Yo v21) (GA.eff 8 rfl (by kernel_rfl) (Zc h Qa5 ?_))
 rintro _ H24 ⟨r23, rfl, h⟩
 obtain ⟨hle22, h⟩ := h
 refine GA.back hle22 (Zp 9 rfl (OV.not rfl) (GA.done (by kernel_rfl) (GL.nil (Yd h (fun u25 h => ?_) fun u25 h => ?_))))
 refine Zo (Za (GL.nil ?_))
 exact Y1 I3 ⟨false, rfl, h⟩
 refine GC.skip_to (fun _ _ h => h) (GC.region (Zm (Zi (.int .i64 (w .i64 (x2 + 1))) (Za ?_))))
 exact Yj I3 (w .i64 (x2 + 1)) h
 refine GC.exit_to (fun _ _ h => h) (Zo (Za (GL.nil ?_)))
 exact Y1 I3 ⟨true, rfl, h⟩
def QcI (C : Ctx) (p_x : Option (Nat × Nat)) (K : Sl → Heap → Prop) (H : Heap) : Prop :=
 ift (Option.isNone p_x)
 (K Sl.nil H)
 (nck p_x fun p2 =>
 ldM H (p2.1, p2.2 + 0) fun x4 =>
 Qai C x4 (fun r6 H7 =>
 K r6 H7) H)
theorem Qfm (C p_x K H) (h : QcI C p_x K H) : Qaf C p_x K H := by
 refine Ye Tryz.func19 rfl Tryz.ntmps19 [(0, pv p_x)] (Zo (Za (GL.nil (GC.seq (Zo (Zm (Zv (OV.eqlNil (p := p_x) rfl rfl rfl) (GL.nil (Yd h (fun u1 h => ?_) fun u1 h => ?_)))))))))
 refine Zo (Za (GL.nil ?_))
 exact Y1 I3 ⟨Sl.nil, rfl, h⟩
 refine GC.skip (Zo (Zm ?_))
 obtain ⟨p2, hp3, h⟩ := h
 refine Zv (OV.nilCheck (q := p_x) rfl hp3) (Zf (Yl h fun x4 h => ?_))
 refine Zc h QfG ?_
 rintro _ H7 ⟨r6, rfl, h⟩
 refine Za (GL.nil ?_)
 exact Y1 I3 ⟨r6, rfl, h⟩
def QcL (C : Ctx) (p_x : Option (Nat × Nat)) (K : Int → Heap → Prop) (H : Heap) : Prop :=
 ift (Option.isNone p_x)
 (K 0 H)
 (nck p_x fun p2 =>
 ldM H (p2.1, p2.2 + 0) fun x4 =>
 lnM x4 (fun m6 =>
 K (m6 : Int) H) H)
theorem Qfp (C p_x K H) (h : QcL C p_x K H) : QaQ C p_x K H := by
 refine Ye Tryz.func20 rfl Tryz.ntmps20 [(0, pv p_x)] (Zo (Za (GL.nil (GC.seq (Zo (Zm (Zv (OV.eqlNil (p := p_x) rfl rfl rfl) (GL.nil (Yd h (fun u1 h => ?_) fun u1 h => ?_)))))))))
 refine Zo (Za (GL.nil ?_))
 exact Y1 I3 ⟨0, rfl, h⟩
 refine GC.skip (Zo (Zm ?_))
 obtain ⟨p2, hp3, h⟩ := h
 refine Zv (OV.nilCheck (q := p_x) rfl hp3) (Zf (Yl h fun x4 h => ?_))
 obtain ⟨m6, hm7, h⟩ := h
 refine Zv (OV.lenMap (q := x4) (m := m6) hm7 rfl rfl) (Za (GL.nil ?_))
 exact Y1 I3 ⟨(m6 : Int), rfl, h⟩
def Qcm (C : Ctx) (p_x : Option (Nat × Nat)) (K : Option (Nat × Nat) → Heap → Prop) (H : Heap) : Prop :=
 ift (Option.isNone p_x)
 (K none H)
 (nck p_x fun p2 =>
 ldM H (p2.1, p2.2 + 0) fun x4 =>
 QH C x4 (fun r6 H7 =>
 mkM (fun b8 H9 =>
 nw (Qc.c (⟨r6, (some b8)⟩ : Qc)) (fun b10 H11 =>
 K (some (b10, 0)) H11) H9) H7) H)
theorem Qe6 (C p_x K H) (h : Qcm C p_x K H) : Qay C p_x K H := by
 refine Ye Tryz.func24 rfl Tryz.ntmps24 [(0, pv p_x)] (Zo (Za (GL.nil (GC.seq (Zo (Zm (Zv (OV.eqlNil (p := p_x) rfl rfl rfl) (GL.nil (Yd h (fun u1 h => ?_) fun u1 h => ?_)))))))))
 refine Zo (Za (GL.nil ?_))
 exact Y1 I3 ⟨none, rfl, h⟩
 refine GC.skip (Zo (Zm ?_))
 obtain ⟨p2, hp3, h⟩ := h
 refine Zv (OV.nilCheck (q := p_x) rfl hp3) (Zf (Yl h fun x4 h => ?_))
 refine Zc h QaF ?_
 rintro _ H7 ⟨r6, rfl, h⟩
 refine GL.makeMap h trivial rfl ?_
 intro b8 H9 h
 refine Zv (OV.build (vs := [(0, mv r6), (1, mv (some b8))]) (v := .agg (Qc.c (⟨r6, (some b8)⟩ : Qc)).toArray) rfl (fun _ => by kernel_rfl)) (GL.box (v := .agg (Qc.c (⟨r6, (some b8)⟩ : Qc)).toArray) (cs := Qc.c (⟨r6, (some b8)⟩ : Qc)) h trivial rfl rfl rfl ?_)
 intro b10 H11 h
 refine Za (GL.nil ?_)
 exact Y1 I3 ⟨(some (b10, 0)), rfl, h⟩
def QeV (C : Ctx) (p_l : Sl) (K : Bool → Heap → Prop) (H : Heap) : Prop :=
 lp (α := Int × Int) (0, 0) H (fun x1 J2 H3 =>
 ift ((decide ((x1.2 : Int) < (Sl.len p_l : Int))) && (decide ((x1.1 : Int) < 3000)))
 (dr H3 fun Hs6 =>
 ixa p_l x1.2 fun p8 =>
 ldL Hs6 ((p8.1, p8.2 + (x1.2 : Int).toNat * 3).1, (p8.1, p8.2 + (x1.2 : Int).toNat * 3).2 + 1) fun x13 =>
 ixa p_l x1.2 fun p15 =>
 ldL Hs6 ((p15.1, p15.2 + (x1.2 : Int).toNat * 3).1, (p15.1, p15.2 + (x1.2 : Int).toNat * 3).2 + 2) fun x20 =>
 QO C x13 (fun r23 H24 =>
 Heap.le Hs6 H24 ∧
 J2 ((w .i64 ((w .i64 ((w .i64 (x1.1 + 1)) + r23)) + (Sl.len x20 : Int))), (w .i64 (x1.2 + 1))) H24) H3)
 (K ((decide ((x1.1 : Int) ≥ 3000)) || (decide (((Sl.len p_l : Int) : Int) > 60))) H3))
theorem QhP (C p_l K H) (h : QeV C p_l K H) : QdA C p_l K H := by
 refine Ye Tryz.func25 rfl Tryz.ntmps25 [(0, slv p_l)] (Zo (Za (GL.nil (Zo (Za (GL.nil (GC.seq (Zo (Za (GL.nil (GC.block (Yp h (fun x1 => [(3, .int .i64 x1.1), (4, .int .i64 x1.2), (0, slv p_l)]) ?_))))))))))))
 intro x1 H3 J2 h
 refine GC.seq (Zo (Zm (Zm (Zq (Zi (.bool (decide ((x1.2 : Int) < (Sl.len p_l : Int)))) (Zm (GL.cut0 3 [(12, .bool ((decide ((x1.2 : Int) < (Sl.len p_l : Int))) && (decide ((x1.1 : Int) < 3000)))), (0, slv p_l), (3, .int .i64 x1.1), (4, .int .i64 x1.2)] ?_ ?_)))))))
 rcases Zb (decide ((x1.2 : Int) < (Sl.len p_l : Int))) with u4 | u4
 refine Zu u4 Ym (Zu u4 (OV.ibin (v := .bool (decide ((x1.1 : Int) < 3000))) rfl rfl rfl) (Zt u4 ?_))
 exact GL.jump0 (fun _ _ h => h) () rfl ⟨(by rw [u4]; rfl), rfl, rfl, rfl, trivial⟩
 refine Zk u4 (Zk u4 (Zn u4 ?_))
 exact GL.jump0 (fun _ _ h => h) () rfl ⟨(by rw [u4]; rfl), rfl, rfl, rfl, trivial⟩
 refine GL.nil (Yd h (fun u5 h => ?_) fun u5 h => ?_)
 refine GC.skip (GC.seq (GC.block ?_))
 obtain ⟨Hs6, hle7, h⟩ := h
 refine GC.any (Hs := Hs6) (by kernel_rfl) hle7 (Zp 0 rfl Ym (Zp 1 rfl (OV.ibin (v := .int .i64 (w .i64 (x1.1 + 1))) rfl rfl rfl) (Zp 2 rfl Ym (Zp 3 rfl Ym ?_))))
 obtain ⟨p8, ha9, hb10, u11, hd12, h⟩ := h
 refine Zp 4 rfl (OV.indexAddr rfl rfl rfl rfl ha9 hb10 u11 hd12) (Zp 5 rfl Yf ?_)
 obtain ⟨x13, v14, h⟩ := h
 refine Zp 6 rfl (Yo v14) (Zp 9 rfl Ym (Zp 10 rfl Ym ?_))
 obtain ⟨p15, ha16, hb17, u18, hd19, h⟩ := h
 refine Zp 11 rfl (OV.indexAddr rfl rfl rfl rfl ha16 hb17 u18 hd19) (Zp 12 rfl Yf ?_)
 obtain ⟨x20, v21, h⟩ := h
 refine Zp 13 rfl (Yo v21) (Zp 14 rfl (OV.lenSl rfl rfl) (GA.eff 7 rfl (by kernel_rfl) (Zc h QeM ?_)))
 rintro _ H24 ⟨r23, rfl, h⟩
 obtain ⟨hle22, h⟩ := h
 refine GA.back hle22 (Zp 8 rfl (OV.ibin (v := .int .i64 (w .i64 ((w .i64 (x1.1 + 1)) + r23))) rfl rfl rfl) (Zp 15 rfl (OV.ibin (v := .int .i64 (w .i64 ((w .i64 ((w .i64 (x1.1 + 1)) + r23)) + (Sl.len x20 : Int)))) rfl rfl rfl) (Zp 16 rfl Ya (GA.done (by kernel_rfl) (GL.nil_to (fun _ _ h => h) (GC.region (Zm (Zi (.int .i64 (w .i64 (x1.2 + 1))) (Za ?_)))))))))
 exact Yj I3 ((w .i64 ((w .i64 ((w .i64 (x1.1 + 1)) + r23)) + (Sl.len x20 : Int))), (w .i64 (x1.2 + 1))) h
 refine GC.exit_to (fun _ _ h => h) (Zo (Zm (Zi (.bool (decide ((x1.1 : Int) ≥ 3000))) (Zm ?_))))
 refine GL.cut0 4 [(37, .bool ((decide ((x1.1 : Int) ≥ 3000)) || (decide (((Sl.len p_l : Int) : Int) > 60))))] ?_ ?_
 rcases Zb (decide ((x1.1 : Int) ≥ 3000)) with u25 | u25
 refine Zk u25 (Zk u25 (Zk u25 (Zt u25 ?_)))
 exact GL.jump0 (fun _ _ h => h) () rfl ⟨(by rw [u25]; rfl), trivial⟩
 refine Zu u25 Ym (Zu u25 (OV.lenSl rfl rfl) (Zu u25 (OV.ibin (v := .bool (decide (((Sl.len p_l : Int) : Int) > 60))) rfl rfl rfl) (Zn u25 ?_)))
 exact GL.jump0 (fun _ _ h => h) () rfl ⟨(by rw [u25]; rfl), trivial⟩
 refine Za (GL.nil ?_)
 exact Y1 I3 ⟨((decide ((x1.1 : Int) ≥ 3000)) || (decide (((Sl.len p_l : Int) : Int) > 60))), rfl, h⟩
def QgA (C : Ctx) (p_l : Sl) (K : Sl → Heap → Prop) (H : Heap) : Prop :=
 lp (α := Sl × Int) (Sl.nil, 0) H (fun x1 J2 H3 =>
 ift (decide ((x1.2 : Int) < (Sl.len p_l : Int)))
 (ixa p_l x1.2 fun p5 =>
 ldT H3 Qa.c (p5.1, p5.2 + (x1.2 : Int).toNat * 4) fun x10 =>
 nw (Qa.c Qa.zero) (fun b12 H13 =>
 stT (b12, 0) (Qa.c x10) (fun H14 =>
 ldL H14 ((b12, 0).1, (b12, 0).2 + 3) fun x15 =>
 QaH C x15 (fun r17 H18 =>
 st ((b12, 0).1, (b12, 0).2 + 3) (slv r17) (fun H19 =>
 ldT H19 Qa.c (b12, 0) fun x20 =>
 apd (Qa.c Qa.zero) 56 x1.1 ((Qa.c x20) ++ []) 1 (fun r22 H23 =>
 J2 (r22, (w .i64 (x1.2 + 1))) H23) H19) H18) H14) H13) H3)
 (K x1.1 H3))
theorem Qjh (C p_l K H) (h : QgA C p_l K H) : QaH C p_l K H := by
 refine Ye Tryz.func26 rfl Tryz.ntmps26 [(0, slv p_l)] (Zo (Za (GL.nil (Zo (Za (GL.nil (GC.seq (Zo (Za (GL.nil (GC.block (Yp h (fun x1 => [(3, slv x1.1), (4, .int .i64 x1.2), (0, slv p_l)]) ?_))))))))))))
 intro x1 H3 J2 h
 refine GC.seq (Zo (Zm (Zm (Zq (Zi (.bool (decide ((x1.2 : Int) < (Sl.len p_l : Int)))) (GL.nil (Yd h (fun u4 h => ?_) fun u4 h => ?_)))))))
 refine GC.skip (GC.seq (GC.block (Zo (Zm (Zm (Yx h fun p5 h => ?_))))))
 obtain ⟨x10, v11, h⟩ := h
 refine Zv (OV.loadT rfl rfl rfl v11) (GL.alloc (cs := Qa.c Qa.zero) h trivial rfl rfl rfl ?_)
 intro b12 H13 h
 refine GL.storeT (p := (b12, 0)) (vs := Qa.c x10) h trivial rfl rfl rfl rfl ?_
 intro H14 h
 refine GL.nil (Zo (Zf (Yl h fun x15 h => ?_)))
 refine Zc h QcA ?_
 rintro _ H18 ⟨r17, rfl, h⟩
 refine Zf (GL.store (p := ((b12, 0).1, (b12, 0).2 + 3)) (v := slv r17) h trivial rfl rfl rfl rfl ?_)
 intro H19 h
 refine GL.nil (GC.region (Zm ?_))
 obtain ⟨x20, v21, h⟩ := h
 refine Zv (OV.loadT rfl rfl rfl v21) (GL.appendLit (s := x1.1) (ys := (Qa.c x20) ++ []) (zc := Qa.c Qa.zero) (bytes := 56) h trivial rfl (fun _ => trivial) rfl (fun _ => rfl) (fun _ => rfl) (vs := [(0, .agg (Qa.c x20).toArray)]) rfl ⟨36, fun _ => by kernel_rfl⟩ ⟨⟨_, _, _, rfl, rfl, rfl, rfl, rfl, rfl⟩⟩ rfl rfl ?_)
 intro _ r22 H23 h
 refine Za (GL.nil_to (fun _ _ h => h) (GC.region (Zm (Zi (.int .i64 (w .i64 (x1.2 + 1))) (Za ?_)))))
 exact Yj I3 (r22, (w .i64 (x1.2 + 1))) h
 refine GC.exit_to (fun _ _ h => h) (Zo (Zm (Za (GL.nil ?_))))
 exact Y1 I3 ⟨x1.1, rfl, h⟩
def QcQ (C : Ctx) (p_x : Option (Nat × Nat)) (p_row : Sl) (K : Bool → Int → Heap → Prop) (H : Heap) : Prop :=
 QbC C p_row (fun r1 H2 =>
 ift (!r1)
 (K false 4 H2)
 (QaS C p_x p_row (fun r4 H5 =>
 ift r4
 (K false 0 H5)
 (nw ([]) (fun b7 H8 =>
 nck p_x fun p9 =>
 ldL H8 (p9.1, p9.2 + 0) fun x11 =>
 apS ([slv Sl.nil]) 24 (Sl.of (some (b7, 0)) 0 0) x11 (fun r13 H14 =>
 QaH C p_row (fun r15 H16 =>
 apd ([slv Sl.nil]) 24 r13 ([slv r15]) 1 (fun r17 H18 =>
 QbM C r17 (fun r19 H20 =>
 nck p_x fun p21 =>
 st (p21.1, p21.2 + 0) (slv r19) (fun H23 =>
 K true 0 H23) H20) H18) H16) H14) H8) H5)) H2)) H
theorem Qfw (C p_x p_row K H) (h : QcQ C p_x p_row K H) : QaT C p_x p_row K H := by
 refine Ye Tryz.func27 rfl Tryz.ntmps27 [(0, pv p_x), (1, slv p_row)] (Zo (Za (Za (GL.nil (GC.seq (Zo (Zm (Zc h QcB ?_))))))))
 rintro _ H2 ⟨r1, rfl, h⟩
 refine Zv (OV.not rfl) (GL.nil (Yd h (fun u3 h => ?_) fun u3 h => ?_))
 refine Zo (Za (Za (GL.nil ?_)))
 exact Y2 I3 ⟨false, 4, rfl, h⟩
 refine GC.skip (GC.seq (Zo (Zm (Zm (Zc h QcC ?_)))))
 rintro _ H5 ⟨r4, rfl, h⟩
 refine GL.nil (Yd h (fun u6 h => ?_) fun u6 h => ?_)
 refine Zo (Za (Za (GL.nil ?_)))
 exact Y2 I3 ⟨false, 0, rfl, h⟩
 refine GC.skip (Zo (Zm (GL.buildSlice (cs := []) h trivial rfl (vs := []) rfl ⟨24, fun _ => by kernel_rfl⟩ ?_)))
 intro b7 H8 h
 refine Zm ?_
 obtain ⟨p9, hp10, h⟩ := h
 refine Zv (OV.nilCheck (q := p_x) rfl hp10) (Zf (Yl h fun x11 h => ?_))
 refine GL.appendS (s := (Sl.of (some (b7, 0)) 0 0)) (s2 := x11) (zc := [slv Sl.nil]) (bytes := 24) h trivial rfl rfl rfl ⟨⟨_, _, _, rfl, rfl, rfl, rfl, rfl, rfl⟩⟩ rfl ?_
 intro r13 H14 h
 refine Zm (Zc h QcA ?_)
 rintro _ H16 ⟨r15, rfl, h⟩
 refine GL.appendLit (s := r13) (ys := [slv r15]) (zc := [slv Sl.nil]) (bytes := 24) h trivial rfl (fun _ => trivial) rfl (fun _ => rfl) (fun _ => rfl) (vs := [(0, slv r15)]) rfl ⟨24, fun _ => by kernel_rfl⟩ ⟨⟨_, _, _, rfl, rfl, rfl, rfl, rfl, rfl⟩⟩ rfl rfl ?_
 intro _ r17 H18 h
 refine Zc h QdJ ?_
 rintro _ H20 ⟨r19, rfl, h⟩
 obtain ⟨p21, hp22, h⟩ := h
 refine Zv (OV.nilCheck (q := p_x) rfl hp22) (Zf (GL.store (p := (p21.1, p21.2 + 0)) (v := slv r19) h trivial rfl rfl rfl rfl ?_))
 intro H23 h
 refine GL.nil (Zo (Za (Za (GL.nil ?_))))
 exact Y2 I3 ⟨true, 0, rfl, h⟩
def QcO (C : Ctx) (p_x : Option (Nat × Nat)) (p_row : Sl) (K : Bool → Int → Heap → Prop) (H : Heap) : Prop :=
 QbC C p_row (fun r1 H2 =>
 ift (!r1)
 (K false 4 H2)
 (lp (α := Sl × Int) (Sl.nil, 0) H2 (fun x4 J5 H6 =>
 nck p_x fun p7 =>
 ldL H6 (p7.1, p7.2 + 0) fun x9 =>
 ift (decide ((x4.2 : Int) < (Sl.len x9 : Int)))
 (jn (α := Sl) (fun x13 H14 =>
 J5 (x13, (w .i64 (x4.2 + 1))) H14)
 (fun J12 => nck p_x fun p16 =>
 ldL H6 (p16.1, p16.2 + 0) fun x18 =>
 ixa x18 x4.2 fun p20 =>
 ldL H6 (p20.1, p20.2 + (x4.2 : Int).toNat * 1) fun x25 =>
 QU C x25 p_row (fun r27 H28 =>
 ift (!r27)
 (nck p_x fun p30 =>
 ldL H28 (p30.1, p30.2 + 0) fun x32 =>
 ixa x32 x4.2 fun p34 =>
 ldL H28 (p34.1, p34.2 + (x4.2 : Int).toNat * 1) fun x39 =>
 apd ([slv Sl.nil]) 24 x4.1 ([slv x39]) 1 (fun r41 H42 =>
 J12 r41 H42) H28)
 (J12 x4.1 H28)) H6))
 (nck p_x fun p43 =>
 ldL H6 (p43.1, p43.2 + 0) fun x45 =>
 nck p_x fun p47 =>
 st (p47.1, p47.2 + 0) (slv x4.1) (fun H49 =>
 K (decide (((Sl.len x4.1 : Int) : Int) < (Sl.len x45 : Int))) 0 H49) H6)))) H
theorem Qfu (C p_x p_row K H) (h : QcO C p_x p_row K H) : QaR C p_x p_row K H := by
 refine Ye Tryz.func28 rfl Tryz.ntmps28 [(0, pv p_x), (1, slv p_row)] (Zo (Za (Za (GL.nil (GC.seq (Zo (Zm (Zc h QcB ?_))))))))
 rintro _ H2 ⟨r1, rfl, h⟩
 refine Zv (OV.not rfl) (GL.nil (Yd h (fun u3 h => ?_) fun u3 h => ?_))
 refine Zo (Za (Za (GL.nil ?_)))
 exact Y2 I3 ⟨false, 4, rfl, h⟩
 refine GC.skip (Zo (Za (GL.nil (GC.seq (Zo (Za (GL.nil (GC.block (Yp h (fun x4 => [(6, slv x4.1), (7, .int .i64 x4.2), (0, pv p_x), (1, slv p_row)]) ?_)))))))))
 intro x4 H6 J5 h
 refine GC.seq (Zo (Zm (Zm ?_)))
 obtain ⟨p7, hp8, h⟩ := h
 refine Zv (OV.nilCheck (q := p_x) rfl hp8) (Zf (Yl h fun x9 h => ?_))
 refine Zq (Zi (.bool (decide ((x4.2 : Int) < (Sl.len x9 : Int)))) (GL.nil (Yd h (fun u11 h => ?_) fun u11 h => ?_)))
 refine GC.skip ?_
 obtain ⟨J12, h, hR15⟩ := h
 refine GC.join (α := Sl) J12 (fun x13 => [(6, slv x13), (0, pv p_x), (1, slv p_row), (7, .int .i64 x4.2)]) ?_ ?_
 refine GC.block (Zo (Zm ?_))
 obtain ⟨p16, hp17, h⟩ := h
 refine Zv (OV.nilCheck (q := p_x) rfl hp17) (Zf (Yl h fun x18 h => ?_))
 refine Zm (Yx h fun p20 h => ?_)
 refine Yl h fun x25 h => ?_
 refine Zm (Zc h Qa5 ?_)
 rintro _ H28 ⟨r27, rfl, h⟩
 refine Zv (OV.not rfl) (GL.nil (Yd h (fun u29 h => ?_) fun u29 h => ?_))
 refine GC.region (Zm (Zm ?_))
 obtain ⟨p30, hp31, h⟩ := h
 refine Zv (OV.nilCheck (q := p_x) rfl hp31) (Zf (Yl h fun x32 h => ?_))
 refine Zm (Yx h fun p34 h => ?_)
 refine Yl h fun x39 h => ?_
 refine GL.appendLit (s := x4.1) (ys := [slv x39]) (zc := [slv Sl.nil]) (bytes := 24) h trivial rfl (fun _ => trivial) rfl (fun _ => rfl) (fun _ => rfl) (vs := [(0, slv x39)]) rfl ⟨24, fun _ => by kernel_rfl⟩ ⟨⟨_, _, _, rfl, rfl, rfl, rfl, rfl, rfl⟩⟩ rfl rfl ?_
 intro _ r41 H42 h
 refine Za ?_
 exact Yj I3 r41 h
 exact Yk I3 x4.1 h
 intro x13 H14 h
 replace h := hR15 x13 H14 h
 refine GC.region (Zm (Zi (.int .i64 (w .i64 (x4.2 + 1))) (Za ?_)))
 exact Yj I3 (x13, (w .i64 (x4.2 + 1))) h
 refine GC.exit_to (fun _ _ h => h) (Zo (Zm (Zq (Zm ?_))))
 obtain ⟨p43, hp44, h⟩ := h
 refine Zv (OV.nilCheck (q := p_x) rfl hp44) (Zf (Yl h fun x45 h => ?_))
 refine Zq (Zi (.bool (decide (((Sl.len x4.1 : Int) : Int) < (Sl.len x45 : Int)))) (Za (GL.nil (Zo (Zm (Zm ?_))))))
 obtain ⟨p47, hp48, h⟩ := h
 refine Zv (OV.nilCheck (q := p_x) rfl hp48) (Zf (GL.store (p := (p47.1, p47.2 + 0)) (v := slv x4.1) h trivial rfl rfl rfl rfl ?_))
 intro H49 h
 refine GL.nil (Zo (Zm (Za (Za (GL.nil ?_)))))
 exact Y2 I3 ⟨(decide (((Sl.len x4.1 : Int) : Int) < (Sl.len x45 : Int))), 0, rfl, h⟩
def Qcp (C : Ctx) (p_x : Option (Nat × Nat)) (p_places : Sl) (p_values : Sl) (K : Sl → Int → Heap → Prop) (H : Heap) : Prop :=
 ift (((Sl.len p_places : Int) : Int) != (Sl.len p_values : Int))
 (K Sl.nil 1 H)
 (lp (α := Sl × Int) (Sl.nil, 0) H (fun x2 J3 H4 =>
 nck p_x fun p5 =>
 ldL H4 (p5.1, p5.2 + 0) fun x7 =>
 ift (decide ((x2.2 : Int) < (Sl.len x7 : Int)))
 (jn (α := Sl) (fun x11 H12 =>
 J3 (x11, (w .i64 (x2.2 + 1))) H12)
 (fun J10 => lp (α := Bool × Int) (true, 0) H4 (fun x14 J15 H16 =>
 ift (decide ((x14.2 : Int) < (Sl.len p_places : Int)))
 (ixa p_places x14.2 fun p18 =>
 ldI H16 .i64 (p18.1, p18.2 + (x14.2 : Int).toNat * 1) fun x23 =>
 jn (α := Bool) (fun x26 H27 =>
 J15 (x26, (w .i64 (x14.2 + 1))) H27)
 (fun J25 => dr H16 fun Hs29 =>
 ift x14.1
 (ift (decide ((x23 : Int) ≥ 0))
 (nck p_x fun p33 =>
 ldL Hs29 (p33.1, p33.2 + 0) fun x35 =>
 ixa x35 x2.2 fun p37 =>
 ldL Hs29 (p37.1, p37.2 + (x2.2 : Int).toNat * 1) fun x42 =>
 ift (decide ((x23 : Int) < (Sl.len x42 : Int)))
 (ixa p_values x14.2 fun p45 =>
 ldT Hs29 Qa.c (p45.1, p45.2 + (x14.2 : Int).toNat * 4) fun x50 =>
 Q2 C x50 (fun r53 H54 =>
 Heap.le Hs29 H54 ∧
 ift ((r53 : Int) == 0)
 (nck p_x fun p56 =>
 ldL Hs29 (p56.1, p56.2 + 0) fun x58 =>
 ixa x58 x2.2 fun p60 =>
 ldL Hs29 (p60.1, p60.2 + (x2.2 : Int).toNat * 1) fun x65 =>
 ixa x65 x23 fun p67 =>
 ldT Hs29 Qa.c (p67.1, p67.2 + (x23 : Int).toNat * 4) fun x72 =>
 ixa p_values x14.2 fun p74 =>
 ldT Hs29 Qa.c (p74.1, p74.2 + (x14.2 : Int).toNat * 4) fun x79 =>
 QT C x72 x79 (fun r82 H83 =>
 Heap.le Hs29 H83 ∧
 J25 r82 H83) H54)
 (J25 false H54)) H16)
 (J25 false H16))
 (J25 false H16))
 (J25 false H16)))
 (ift x14.1
 (nck p_x fun p85 =>
 ldL H16 (p85.1, p85.2 + 0) fun x87 =>
 ixa x87 x2.2 fun p89 =>
 ldL H16 (p89.1, p89.2 + (x2.2 : Int).toNat * 1) fun x94 =>
 apd ([slv Sl.nil]) 24 x2.1 ([slv x94]) 1 (fun r96 H97 =>
 J10 r96 H97) H16)
 (J10 x2.1 H16)))))
 (K x2.1 0 H4)))
theorem Qe9 (C p_x p_places p_values K H) (h : Qcp C p_x p_places p_values K H) : Qaz C p_x p_places p_values K H := by
 refine Ye Tryz.func29 rfl Tryz.ntmps29 [(0, pv p_x), (1, slv p_places), (2, slv p_values)] (Zo (Za (Za (GL.nil (GC.seq (Zo (Zm (Zq (Zm (Zq (Zi (.bool (((Sl.len p_places : Int) : Int) != (Sl.len p_values : Int))) (GL.nil (Yd h (fun u1 h => ?_) fun u1 h => ?_)))))))))))))
 refine Zo (Za (Za (GL.nil ?_)))
 exact Y2 I3 ⟨Sl.nil, 1, rfl, h⟩
 refine GC.skip (Zo (Za (GL.nil (GC.seq (Zo (Za (GL.nil (GC.block (Yp h (fun x2 => [(8, slv x2.1), (9, .int .i64 x2.2), (0, pv p_x), (1, slv p_places), (2, slv p_values)]) ?_)))))))))
 intro x2 H4 J3 h
 refine GC.seq (Zo (Zm (Zm ?_)))
 obtain ⟨p5, hp6, h⟩ := h
 refine Zv (OV.nilCheck (q := p_x) rfl hp6) (Zf (Yl h fun x7 h => ?_))
 refine Zq (Zi (.bool (decide ((x2.2 : Int) < (Sl.len x7 : Int)))) (GL.nil (Yd h (fun u9 h => ?_) fun u9 h => ?_)))
 refine GC.skip ?_
 obtain ⟨J10, h, hR13⟩ := h
 refine GC.join (α := Sl) J10 (fun x11 => [(8, slv x11), (0, pv p_x), (1, slv p_places), (2, slv p_values), (9, .int .i64 x2.2)]) ?_ ?_
 refine GC.block (Zo (Za (GL.nil (GC.seq (Zo (Za (GL.nil (GC.block (Yp h (fun x14 => [(10, .bool x14.1), (11, .int .i64 x14.2), (0, pv p_x), (1, slv p_places), (2, slv p_values), (8, slv x2.1), (9, .int .i64 x2.2)]) ?_)))))))))
 intro x14 H16 J15 h
 refine GC.seq (Zo (Zm (Zm (Zq (Zi (.bool (decide ((x14.2 : Int) < (Sl.len p_places : Int)))) (GL.nil (Yd h (fun u17 h => ?_) fun u17 h => ?_)))))))
 refine GC.skip (GC.seq (GC.block (Zo (Zm (Zm (Yx h fun p18 h => ?_))))))
 refine Yl h fun x23 h => ?_
 refine Za (GL.nil ?_)
 obtain ⟨J25, h, hR28⟩ := h
 refine GC.meet (α := Bool) J25 (fun x26 => [(10, .bool x26), (0, pv p_x), (1, slv p_places), (2, slv p_values), (8, slv x2.1), (9, .int .i64 x2.2), (11, .int .i64 x14.2)]) ?_ ?_
 obtain ⟨Hs29, hle30, h⟩ := h
 refine GC.any (Hs := Hs29) (by kernel_rfl) hle30 (Zp 0 rfl Ym (Zp 1 rfl Ym ?_))
 rcases h.em with ⟨u31, h⟩ | ⟨u31, h⟩
 refine Zg 2 rfl (Yt u31) Ym (Zg 3 rfl (Yt u31) (OV.ibin (v := .bool (decide ((x23 : Int) ≥ 0))) rfl rfl rfl) (Zp 4 rfl (OV.pickT rfl u31 rfl) (Zp 5 rfl Ym ?_)))
 rcases h.em with ⟨u32, h⟩ | ⟨u32, h⟩
 refine Zg 6 rfl (Yt u32) Ym (Zg 7 rfl (Yt u32) Ym ?_)
 obtain ⟨p33, hp34, h⟩ := h
 refine Zg 8 rfl (Yt u32) (OV.nilCheck (q := p_x) rfl hp34) (Zg 9 rfl (Yt u32) Yf ?_)
 obtain ⟨x35, v36, h⟩ := h
 refine Zg 10 rfl (Yt u32) (Yo v36) (Zg 11 rfl (Yt u32) Ym ?_)
 obtain ⟨p37, ha38, hb39, u40, hd41, h⟩ := h
 refine Zg 12 rfl (Yt u32) (OV.indexAddr rfl rfl rfl rfl ha38 hb39 u40 hd41) ?_
 obtain ⟨x42, v43, h⟩ := h
 refine Zg 13 rfl (Yt u32) (Yo v43) (Zg 14 rfl (Yt u32) (OV.lenSl rfl rfl) (Zg 15 rfl (Yt u32) (OV.ibin (v := .bool (decide ((x23 : Int) < (Sl.len x42 : Int)))) rfl rfl rfl) (Zp 16 rfl (OV.pickT rfl u32 rfl) (Zp 17 rfl Ym ?_))))
 rcases h.em with ⟨u44, h⟩ | ⟨u44, h⟩
 refine Zg 18 rfl (Yt u44) Ym (Zg 19 rfl (Yt u44) Ym ?_)
 obtain ⟨p45, ha46, hb47, u48, hd49, h⟩ := h
 refine Zg 20 rfl (Yt u44) (OV.indexAddr rfl rfl rfl rfl ha46 hb47 u48 hd49) ?_
 obtain ⟨x50, v51, h⟩ := h
 refine Zg 21 rfl (Yt u44) (OV.loadT rfl rfl rfl v51) (GA.eff 22 rfl (by kernel_rfl) (GL.call h (Yt u44) rfl QeN (vs := [.agg (Qa.c x50).toArray]) rfl ?_))
 rintro _ H54 ⟨r53, rfl, h⟩
 obtain ⟨hle52, h⟩ := h
 refine GA.back hle52 (Zg 23 rfl (Yt u44) (OV.ibin (v := .bool ((r53 : Int) == 0)) rfl rfl rfl) (Zp 24 rfl (OV.pickT rfl u44 rfl) (Zp 25 rfl Ym ?_)))
 rcases h.em with ⟨u55, h⟩ | ⟨u55, h⟩
 refine Zg 26 rfl (Yt u55) Ym ?_
 obtain ⟨p56, hp57, h⟩ := h
 refine Zg 27 rfl (Yt u55) (OV.nilCheck (q := p_x) rfl hp57) (Zg 28 rfl (Yt u55) Yf ?_)
 obtain ⟨x58, v59, h⟩ := h
 refine Zg 29 rfl (Yt u55) (Yo v59) (Zg 30 rfl (Yt u55) Ym ?_)
 obtain ⟨p60, ha61, hb62, u63, hd64, h⟩ := h
 refine Zg 31 rfl (Yt u55) (OV.indexAddr rfl rfl rfl rfl ha61 hb62 u63 hd64) ?_
 obtain ⟨x65, v66, h⟩ := h
 refine Zg 32 rfl (Yt u55) (Yo v66) (Zg 33 rfl (Yt u55) Ym ?_)
 obtain ⟨p67, ha68, hb69, u70, hd71, h⟩ := h
 refine Zg 34 rfl (Yt u55) (OV.indexAddr rfl rfl rfl rfl ha68 hb69 u70 hd71) ?_
 obtain ⟨x72, v73, h⟩ := h
 refine Zg 35 rfl (Yt u55) (OV.loadT rfl rfl rfl v73) (Zg 36 rfl (Yt u55) Ym (Zg 37 rfl (Yt u55) Ym ?_))
 obtain ⟨p74, ha75, hb76, u77, hd78, h⟩ := h
 refine Zg 38 rfl (Yt u55) (OV.indexAddr rfl rfl rfl rfl ha75 hb76 u77 hd78) ?_
 obtain ⟨x79, v80, h⟩ := h
 refine Zg 39 rfl (Yt u55) (OV.loadT rfl rfl rfl v80) (GA.eff 40 rfl (by kernel_rfl) (GL.call h (Yt u55) rfl QfJ (vs := [.agg (Qa.c x72).toArray, .agg (Qa.c x79).toArray]) rfl ?_))
 rintro _ H83 ⟨r82, rfl, h⟩
 obtain ⟨hle81, h⟩ := h
 refine GA.back hle81 (Zp 41 rfl (OV.pickT rfl u55 rfl) (Zp 42 rfl Ya (GA.done (by kernel_rfl) ?_)))
 exact Yj I3 r82 h
 refine Zj 26 rfl (Yw u55) (Zj 27 rfl (Yw u55) (Zj 28 rfl (Yw u55) (Zj 29 rfl (Yw u55) (Zj 30 rfl (Yw u55) (Zj 31 rfl (Yw u55) (Zj 32 rfl (Yw u55) (Zj 33 rfl (Yw u55) (Zj 34 rfl (Yw u55) (Zj 35 rfl (Yw u55) (Zj 36 rfl (Yw u55) (Zj 37 rfl (Yw u55) (Zj 38 rfl (Yw u55) (Zj 39 rfl (Yw u55) (Zj 40 rfl (Yw u55) (Zp 41 rfl (OV.pickF rfl u55 rfl) (Zp 42 rfl Ya (GA.done (by kernel_rfl) ?_)))))))))))))))))
 exact Yj I3 false h
 refine Zj 18 rfl (Yw u44) (Zj 19 rfl (Yw u44) (Zj 20 rfl (Yw u44) (Zj 21 rfl (Yw u44) (Zj 22 rfl (Yw u44) (Zj 23 rfl (Yw u44) (Zp 24 rfl (OV.pickF rfl u44 rfl) (Zp 25 rfl Ym (Zj 26 rfl (Yw rfl) (Zj 27 rfl (Yw rfl) (Zj 28 rfl (Yw rfl) (Zj 29 rfl (Yw rfl) (Zj 30 rfl (Yw rfl) (Zj 31 rfl (Yw rfl) (Zj 32 rfl (Yw rfl) (Zj 33 rfl (Yw rfl) (Zj 34 rfl (Yw rfl) (Zj 35 rfl (Yw rfl) (Zj 36 rfl (Yw rfl) (Zj 37 rfl (Yw rfl) (Zj 38 rfl (Yw rfl) (Zj 39 rfl (Yw rfl) (Zj 40 rfl (Yw rfl) (Zp 41 rfl (OV.pickF rfl rfl rfl) (Zp 42 rfl Ya (GA.done (by kernel_rfl) ?_)))))))))))))))))))))))))
 exact Yj I3 false h
 refine Zj 6 rfl (Yw u32) (Zj 7 rfl (Yw u32) (Zj 8 rfl (Yw u32) (Zj 9 rfl (Yw u32) (Zj 10 rfl (Yw u32) (Zj 11 rfl (Yw u32) (Zj 12 rfl (Yw u32) (Zj 13 rfl (Yw u32) (Zj 14 rfl (Yw u32) (Zj 15 rfl (Yw u32) (Zp 16 rfl (OV.pickF rfl u32 rfl) (Zp 17 rfl Ym (Zj 18 rfl (Yw rfl) (Zj 19 rfl (Yw rfl) (Zj 20 rfl (Yw rfl) (Zj 21 rfl (Yw rfl) (Zj 22 rfl (Yw rfl) (Zj 23 rfl (Yw rfl) (Zp 24 rfl (OV.pickF rfl rfl rfl) (Zp 25 rfl Ym (Zj 26 rfl (Yw rfl) (Zj 27 rfl (Yw rfl) (Zj 28 rfl (Yw rfl) (Zj 29 rfl (Yw rfl) ?_)))))))))))))))))))))))
 refine Zj 30 rfl (Yw rfl) (Zj 31 rfl (Yw rfl) (Zj 32 rfl (Yw rfl) (Zj 33 rfl (Yw rfl) (Zj 34 rfl (Yw rfl) (Zj 35 rfl (Yw rfl) (Zj 36 rfl (Yw rfl) (Zj 37 rfl (Yw rfl) (Zj 38 rfl (Yw rfl) (Zj 39 rfl (Yw rfl) (Zj 40 rfl (Yw rfl) (Zp 41 rfl (OV.pickF rfl rfl rfl) (Zp 42 rfl Ya (GA.done (by kernel_rfl) ?_)))))))))))))
 exact Yj I3 false h
 refine Zj 2 rfl (Yw u31) (Zj 3 rfl (Yw u31) (Zp 4 rfl (OV.pickF rfl u31 rfl) (Zp 5 rfl Ym (Zj 6 rfl (Yw rfl) (Zj 7 rfl (Yw rfl) (Zj 8 rfl (Yw rfl) (Zj 9 rfl (Yw rfl) (Zj 10 rfl (Yw rfl) (Zj 11 rfl (Yw rfl) (Zj 12 rfl (Yw rfl) (Zj 13 rfl (Yw rfl) (Zj 14 rfl (Yw rfl) (Zj 15 rfl (Yw rfl) (Zp 16 rfl (OV.pickF rfl rfl rfl) (Zp 17 rfl Ym (Zj 18 rfl (Yw rfl) (Zj 19 rfl (Yw rfl) (Zj 20 rfl (Yw rfl) (Zj 21 rfl (Yw rfl) (Zj 22 rfl (Yw rfl) (Zj 23 rfl (Yw rfl) (Zp 24 rfl (OV.pickF rfl rfl rfl) (Zp 25 rfl Ym ?_)))))))))))))))))))))))
 refine Zj 26 rfl (Yw rfl) (Zj 27 rfl (Yw rfl) (Zj 28 rfl (Yw rfl) (Zj 29 rfl (Yw rfl) (Zj 30 rfl (Yw rfl) (Zj 31 rfl (Yw rfl) (Zj 32 rfl (Yw rfl) (Zj 33 rfl (Yw rfl) (Zj 34 rfl (Yw rfl) (Zj 35 rfl (Yw rfl) (Zj 36 rfl (Yw rfl) (Zj 37 rfl (Yw rfl) (Zj 38 rfl (Yw rfl) (Zj 39 rfl (Yw rfl) (Zj 40 rfl (Yw rfl) (Zp 41 rfl (OV.pickF rfl rfl rfl) (Zp 42 rfl Ya (GA.done (by kernel_rfl) ?_)))))))))))))))))
 exact Yj I3 false h
 intro x26 H27 h
 replace h := hR28 x26 H27 h
 refine GL.nil_to (fun _ _ h => h) (GC.region (Zm (Zi (.int .i64 (w .i64 (x14.2 + 1))) (Za ?_))))
 exact Yj I3 (x26, (w .i64 (x14.2 + 1))) h
 refine GC.exit_to (fun _ _ h => h) (Zo (Zm (GL.nil ?_)))
 refine Yd h (fun u84 h => ?_) fun u84 h => ?_
 refine GC.region (Zm (Zm ?_))
 obtain ⟨p85, hp86, h⟩ := h
 refine Zv (OV.nilCheck (q := p_x) rfl hp86) (Zf (Yl h fun x87 h => ?_))
 refine Zm (Yx h fun p89 h => ?_)
 refine Yl h fun x94 h => ?_
 refine GL.appendLit (s := x2.1) (ys := [slv x94]) (zc := [slv Sl.nil]) (bytes := 24) h trivial rfl (fun _ => trivial) rfl (fun _ => rfl) (fun _ => rfl) (vs := [(0, slv x94)]) rfl ⟨24, fun _ => by kernel_rfl⟩ ⟨⟨_, _, _, rfl, rfl, rfl, rfl, rfl, rfl⟩⟩ rfl rfl ?_
 intro _ r96 H97 h
 refine Za ?_
 exact Yj I3 r96 h
 exact Yk I3 x2.1 h
 intro x11 H12 h
 replace h := hR13 x11 H12 h
 refine GC.region (Zm (Zi (.int .i64 (w .i64 (x2.2 + 1))) (Za ?_)))
 exact Yj I3 (x11, (w .i64 (x2.2 + 1))) h
 refine GC.exit_to (fun _ _ h => h) (Zo (Zm (Za (Za (GL.nil ?_)))))
 exact Y2 I3 ⟨x2.1, 0, rfl, h⟩
def Qda (C : Ctx) (p_l : Sl) (K : Heap → Prop) (H : Heap) : Prop :=
 lp (α := Int) 0 H (fun x1 J2 H3 =>
 ift (decide ((x1 : Int) < (Sl.len p_l : Int)))
 (ixa p_l x1 fun p5 =>
 ldL H3 ((p5.1, p5.2 + (x1 : Int).toNat * 4).1, (p5.1, p5.2 + (x1 : Int).toNat * 4).2 + 3) fun x10 =>
 Qw C x10 (fun H12 =>
 ixa p_l x1 fun p13 =>
 stT (p13.1, p13.2 + (x1 : Int).toNat * 4) (Qa.c (⟨99, 0, [], Sl.nil⟩ : Qa)) (fun H18 =>
 J2 (w .i64 (x1 + 1)) H18) H12) H3)
 (K H3))
theorem QeK (C p_l K H) (h : Qda C p_l K H) : Qw C p_l K H := by
 refine Ye Tryz.func30 rfl Tryz.ntmps30 [(0, slv p_l)] (Zo (Za (GL.nil (GC.block (Yp h (fun x1 => [(2, .int .i64 x1), (0, slv p_l)]) ?_)))))
 intro x1 H3 J2 h
 refine GC.seq (Zo (Zm (Zm (Zq (Zi (.bool (decide ((x1 : Int) < (Sl.len p_l : Int)))) (GL.nil (Yd h (fun hc4 h => ?_) fun hc4 h => ?_)))))))
 refine GC.skip (GC.seq (GC.block (Zo (Zm (Zm (Yx h fun p5 h => ?_))))))
 refine Zf (Yl h fun x10 h => ?_)
 refine Zc h QbI ?_
 rintro _ H12 ⟨rfl, h⟩
 refine GL.nil (GC.region (Zm (Zm (Zv (OV.build (vs := [(0, .int .u8 99)]) (v := .agg (Qa.c (⟨99, 0, [], Sl.nil⟩ : Qa)).toArray) rfl (fun _ => by kernel_rfl)) (Yx h fun p13 h => ?_)))))
 refine GL.storeT (p := (p13.1, p13.2 + (x1 : Int).toNat * 4)) (vs := Qa.c (⟨99, 0, [], Sl.nil⟩ : Qa)) h trivial rfl rfl rfl rfl ?_
 intro H18 h
 refine GL.nil_to (fun _ _ h => h) (GC.region (Zm (Zi (.int .i64 (w .i64 (x1 + 1))) (Za ?_))))
 exact Yj I3 (w .i64 (x1 + 1)) h
 exact GC.exit_ends (fun _ _ hf hs => Qv rfl hf hs ⟨rfl, h⟩)
def QcP (C : Ctx) (p_x : Option (Nat × Nat)) (p_row : Sl) (K : Bool → Heap → Prop) (H : Heap) : Prop :=
 lp (α := Int) 0 H (fun x1 J2 H3 =>
 nck p_x fun p4 =>
 ldL H3 (p4.1, p4.2 + 0) fun x6 =>
 ift (decide ((x1 : Int) < (Sl.len x6 : Int)))
 (nck p_x fun p9 =>
 ldL H3 (p9.1, p9.2 + 0) fun x11 =>
 ixa x11 x1 fun p13 =>
 ldL H3 (p13.1, p13.2 + (x1 : Int).toNat * 1) fun x18 =>
 QU C x18 p_row (fun r20 H21 =>
 ift r20
 (K true H21)
 (J2 (w .i64 (x1 + 1)) H21)) H3)
 (K false H3))
theorem Qfv (C p_x p_row K H) (h : QcP C p_x p_row K H) : QaS C p_x p_row K H := by
 refine Ye Tryz.func31 rfl Tryz.ntmps31 [(0, pv p_x), (1, slv p_row)] (Zo (Za (GL.nil (GC.seq (Zo (Za (GL.nil (GC.block (Yp h (fun x1 => [(5, .int .i64 x1), (0, pv p_x), (1, slv p_row)]) ?_)))))))))
 intro x1 H3 J2 h
 refine GC.seq (Zo (Zm (Zm ?_)))
 obtain ⟨p4, hp5, h⟩ := h
 refine Zv (OV.nilCheck (q := p_x) rfl hp5) (Zf (Yl h fun x6 h => ?_))
 refine Zq (Zi (.bool (decide ((x1 : Int) < (Sl.len x6 : Int)))) (GL.nil (Yd h (fun u8 h => ?_) fun u8 h => ?_)))
 refine GC.skip (GC.seq (GC.block (Zo (Zm ?_))))
 obtain ⟨p9, hp10, h⟩ := h
 refine Zv (OV.nilCheck (q := p_x) rfl hp10) (Zf (Yl h fun x11 h => ?_))
 refine Zm (Yx h fun p13 h => ?_)
 refine Yl h fun x18 h => ?_
 refine Zm (Zc h Qa5 ?_)
 rintro _ H21 ⟨r20, rfl, h⟩
 refine GL.nil (Yd h (fun u22 h => ?_) fun u22 h => ?_)
 refine Zo (Za (GL.nil ?_))
 exact Y1 I3 ⟨true, rfl, h⟩
 refine GC.skip_to (fun _ _ h => h) (GC.region (Zm (Zi (.int .i64 (w .i64 (x1 + 1))) (Za ?_))))
 exact Yj I3 (w .i64 (x1 + 1)) h
 refine GC.exit_to (fun _ _ h => h) (Zo (Za (GL.nil ?_)))
 exact Y1 I3 ⟨false, rfl, h⟩
def Qgy (C : Ctx) (p_l : Sl) (K : Str → Bool → Heap → Prop) (H : Heap) : Prop :=
 lp (α := Sl × Int) (Sl.nil, 0) H (fun x1 J2 H3 =>
 ift (decide ((x1.2 : Int) < (Sl.len p_l : Int)))
 (ixa p_l x1.2 fun p5 =>
 ldT H3 Qa.c (p5.1, p5.2 + (x1.2 : Int).toNat * 4) fun x10 =>
 nw (Qa.c Qa.zero) (fun b12 H13 =>
 stT (b12, 0) (Qa.c x10) (fun H14 =>
 ldT H14 Qa.c (b12, 0) fun x15 =>
 QQ C x15 (fun r17 H18 =>
 ift ((r17 : Int) != 0)
 (K [] false H18)
 (ldT H18 Qa.c (b12, 0) fun x20 =>
 Qec C x1.1 x20 (fun r22 H23 =>
 J2 (r22, (w .i64 (x1.2 + 1))) H23) H18)) H14) H13) H3)
 (b2s x1.1 (fun t24 =>
 K t24 true H3) H3))
theorem Qjf (C p_l K H) (h : Qgy C p_l K H) : Qa8 C p_l K H := by
 refine Ye Tryz.func32 rfl Tryz.ntmps32 [(0, slv p_l)] (Zo (Za (Za (GL.nil (Zo (Za (GL.nil (GC.seq (Zo (Zm (Zq (Zm (GL.nil (GC.block (Yp h (fun x1 => [(4, slv x1.1), (9, .int .i64 x1.2), (7, slv p_l), (8, .int .i64 (Sl.len p_l : Int))]) ?_)))))))))))))))
 intro x1 H3 J2 h
 refine Zo (Zi (.bool (decide ((x1.2 : Int) < (Sl.len p_l : Int)))) (GL.nil (GC.seq (Yd h (fun u4 h => ?_) fun u4 h => ?_))))
 refine GC.skip (GC.seq (GC.block (Zo (Yx h fun p5 h => ?_))))
 obtain ⟨x10, v11, h⟩ := h
 refine Zv (OV.loadT rfl rfl rfl v11) (GL.alloc (cs := Qa.c Qa.zero) h trivial rfl rfl rfl ?_)
 intro b12 H13 h
 refine GL.storeT (p := (b12, 0)) (vs := Qa.c x10) h trivial rfl rfl rfl rfl ?_
 intro H14 h
 refine GL.nil (GC.seq (Zo ?_))
 obtain ⟨x15, v16, h⟩ := h
 refine Zv (OV.loadT rfl rfl rfl v16) (Zc h Qc9 ?_)
 rintro _ H18 ⟨r17, rfl, h⟩
 refine Zi (.bool ((r17 : Int) != 0)) (GL.nil (Yd h (fun u19 h => ?_) fun u19 h => ?_))
 refine Zo (Za (Za (GL.nil ?_)))
 exact Y2 I3 ⟨[], false, rfl, h⟩
 refine GC.skip (GC.region (Zm ?_))
 obtain ⟨x20, v21, h⟩ := h
 refine Zv (OV.loadT rfl rfl rfl v21) (Zc h QiW ?_)
 rintro _ H23 ⟨r22, rfl, h⟩
 refine Za (GL.nil_to (fun _ _ h => h) (GC.region (Zi (.int .i64 (w .i64 (x1.2 + 1))) (Zm ?_))))
 exact Yj I3 (r22, (w .i64 (x1.2 + 1))) h
 refine GC.exit_to (fun _ _ h => h) (Zo (Zm ?_))
 obtain ⟨t24, h25, h26, h⟩ := h
 refine Zv (OV.b2s (b := x1.1) (s := t24) h25 h26 rfl rfl rfl rfl) (Za (Za (GL.nil ?_)))
 exact Y2 I3 ⟨t24, true, rfl, h⟩
def QeU (C : Ctx) (p_l : Sl) (K : Sl → Heap → Prop) (H : Heap) : Prop :=
 lp (α := Sl × Int) (Sl.nil, 0) H (fun x1 J2 H3 =>
 ift (decide ((x1.2 : Int) < (Sl.len p_l : Int)))
 (ixa p_l x1.2 fun p5 =>
 ldT H3 Qa.c (p5.1, p5.2 + (x1.2 : Int).toNat * 4) fun x10 =>
 nw (Qa.c Qa.zero) (fun b12 H13 =>
 stT (b12, 0) (Qa.c x10) (fun H14 =>
 ldT H14 Qa.c (b12, 0) fun x15 =>
 Qa9 C x15 (fun r17 H18 =>
 apd (Qa.c Qa.zero) 56 x1.1 ((Qa.c r17) ++ []) 1 (fun r19 H20 =>
 J2 (r19, (w .i64 (x1.2 + 1))) H20) H18) H14) H13) H3)
 (K x1.1 H3))
theorem QhO (C p_l K H) (h : QeU C p_l K H) : QZ C p_l K H := by
 refine Ye Tryz.func33 rfl Tryz.ntmps33 [(0, slv p_l)] (Zo (Za (GL.nil (Zo (Za (GL.nil (GC.seq (Zo (Zm (Zq (Zm (GL.nil (GC.block (Yp h (fun x1 => [(3, slv x1.1), (8, .int .i64 x1.2), (6, slv p_l), (7, .int .i64 (Sl.len p_l : Int))]) ?_))))))))))))))
 intro x1 H3 J2 h
 refine Zo (Zi (.bool (decide ((x1.2 : Int) < (Sl.len p_l : Int)))) (GL.nil (GC.seq (Yd h (fun u4 h => ?_) fun u4 h => ?_))))
 refine GC.skip (GC.seq (GC.block (Zo (Yx h fun p5 h => ?_))))
 obtain ⟨x10, v11, h⟩ := h
 refine Zv (OV.loadT rfl rfl rfl v11) (GL.alloc (cs := Qa.c Qa.zero) h trivial rfl rfl rfl ?_)
 intro b12 H13 h
 refine GL.storeT (p := (b12, 0)) (vs := Qa.c x10) h trivial rfl rfl rfl rfl ?_
 intro H14 h
 refine GL.nil (GC.region (Zm ?_))
 obtain ⟨x15, v16, h⟩ := h
 refine Zv (OV.loadT rfl rfl rfl v16) (Zc h Qjy ?_)
 rintro _ H18 ⟨r17, rfl, h⟩
 refine GL.appendLit (s := x1.1) (ys := (Qa.c r17) ++ []) (zc := Qa.c Qa.zero) (bytes := 56) h trivial rfl (fun _ => trivial) rfl (fun _ => rfl) (fun _ => rfl) (vs := [(0, .agg (Qa.c r17).toArray)]) rfl ⟨36, fun _ => by kernel_rfl⟩ ⟨⟨_, _, _, rfl, rfl, rfl, rfl, rfl, rfl⟩⟩ rfl rfl ?_
 intro _ r19 H20 h
 refine Za (GL.nil_to (fun _ _ h => h) (GC.region (Zi (.int .i64 (w .i64 (x1.2 + 1))) (Zm ?_))))
 exact Yj I3 (r19, (w .i64 (x1.2 + 1))) h
 refine GC.exit_to (fun _ _ h => h) (Zo (Zm (Za (GL.nil ?_))))
 exact Y1 I3 ⟨x1.1, rfl, h⟩
def Qeo (C : Ctx) (p_b : Option (Nat × Nat)) (p_k : Str) (p_l : Sl) (K : Heap → Prop) (H : Heap) : Prop :=
 Qbp C p_b p_l (fun r1 r2 H3 =>
 ift (!r2)
 (K H3)
 (jn (α := Unit) (fun x6 H7 =>
 nck p_b fun p24 =>
 ldM H7 (p24.1, p24.2 + 1) fun x26 =>
 lkM (fun x : Option Nat => (mv x : Value)) none x26 r1 (fun x28 is29 =>
 upS (fun x : Sl => (slv x : Value)) x28 p_k p_l (fun H31 =>
 K H31) H7) H7)
 (fun J5 => nck p_b fun p9 =>
 ldM H3 (p9.1, p9.2 + 1) fun x11 =>
 lkM (fun x : Option Nat => (mv x : Value)) none x11 r1 (fun x13 is14 =>
 ift x13.isNone
 (nck p_b fun p17 =>
 ldM H3 (p17.1, p17.2 + 1) fun x19 =>
 mkM (fun b21 H22 =>
 upS (fun x : Option Nat => (mv x : Value)) x19 r1 (some b21) (fun H23 =>
 J5 () H23) H22) H3)
 (J5 () H3)) H3))) H
theorem Qg3 (C p_b p_k p_l K H) (h : Qeo C p_b p_k p_l K H) : Qab C p_b p_k p_l K H := by
 refine Ye Tryz.func34 rfl Tryz.ntmps34 [(0, pv p_b), (1, sv p_k), (2, slv p_l)] (Zo (Zm (Zm (Zc h QeL ?_))))
 rintro _ H3 ⟨r1, r2, rfl, h⟩
 refine Zm (Yv (sv r1) rfl rfl (Yv (.bool r2) rfl rfl (Za (Za (GL.nil (GC.seq (Zo (Zm (Zv (OV.not rfl) (GL.nil (Yd h (fun u4 h => ?_) fun u4 h => ?_)))))))))))
 exact GC.ret (fun _ _ hf hs => Qv rfl hf hs ⟨rfl, h⟩)
 refine GC.skip ?_
 obtain ⟨J5, h, hR8⟩ := h
 refine GC.join (α := Unit) J5 (fun _ => [(0, pv p_b), (1, sv p_k), (2, slv p_l), (6, sv r1)]) ?_ ?_
 refine Zo (Zm ?_)
 obtain ⟨p9, hp10, h⟩ := h
 refine Zv (OV.nilCheck (q := p_b) rfl hp10) (Zf (Yl h fun x11 h => ?_))
 refine Zm ?_
 obtain ⟨x13, is14, v15, h⟩ := h
 refine Zv (OV.lookup1 (v := mv x13) (enc := (fun x : Option Nat => (mv x : Value))) (z := none) (q := x11) (k := r1) (x := x13) (b := is14) rfl v15 rfl rfl rfl rfl rfl) (Zv (OV.eqlMap (q := x13) rfl rfl rfl) (GL.nil (Yd h (fun u16 h => ?_) fun u16 h => ?_)))
 refine GC.region (Zm ?_)
 obtain ⟨p17, hp18, h⟩ := h
 refine Zv (OV.nilCheck (q := p_b) rfl hp18) (Zf (Yl h fun x19 h => ?_))
 refine Zm (GL.makeMap h trivial rfl ?_)
 intro b21 H22 h
 refine GL.mapUpdateS (enc := (fun x : Option Nat => (mv x : Value))) (q := x19) (k := r1) (x := (some b21)) h trivial rfl rfl rfl rfl rfl ?_
 intro H23 h
 exact Yj I3 () h
 exact Yk I3 () h
 intro x6 H7 h
 replace h := hR8 x6 H7 h
 refine GC.region (Zm ?_)
 obtain ⟨p24, hp25, h⟩ := h
 refine Zv (OV.nilCheck (q := p_b) rfl hp25) (Zf (Yl h fun x26 h => ?_))
 refine Zm ?_
 obtain ⟨x28, is29, v30, h⟩ := h
 refine Zv (OV.lookup1 (v := mv x28) (enc := (fun x : Option Nat => (mv x : Value))) (z := none) (q := x26) (k := r1) (x := x28) (b := is29) rfl v30 rfl rfl rfl rfl rfl) (Zm (Zm (GL.mapUpdateS (enc := (fun x : Sl => (slv x : Value))) (q := x28) (k := p_k) (x := p_l) h trivial rfl rfl rfl rfl rfl ?_)))
 intro H31 h
 exact GL.ends (fun _ _ hf hs => Qv rfl hf hs ⟨rfl, h⟩)
def Qes (C : Ctx) (p_elems : Sl) (p_sep : Str) (K : Str → Heap → Prop) (H : Heap) : Prop :=
 ift (((Sl.len p_elems : Int) : Int) == 0)
 (K [] H)
 (ift (((Sl.len p_elems : Int) : Int) == 1)
 (ixa p_elems 0 fun p3 =>
 ldS H (p3.1, p3.2 + (0 : Int).toNat * 1) fun x8 =>
 K x8 H)
 (jn (α := Int) (fun x11 H12 =>
 lp (α := Int × Int) (x11, 0) H12 (fun x17 J18 H19 =>
 ift (decide ((x17.2 : Int) < (Sl.len p_elems : Int)))
 (ixa p_elems x17.2 fun p21 =>
 ldS H19 (p21.1, p21.2 + (x17.2 : Int).toNat * 1) fun x26 =>
 ift (decide (((List.length x26 : Int) : Int) > (w .i64 (9223372036854775807 - x17.1))))
 (False)
 (J18 ((w .i64 (x17.1 + (List.length x26 : Int))), (w .i64 (x17.2 + 1))) H19))
 (nwB 84 5 (fun b29 H30 =>
 Qo C (some (b29, 0)) x17.1 (fun H31 =>
 ixa p_elems 0 fun p32 =>
 ldS H31 (p32.1, p32.2 + (0 : Int).toNat * 1) fun x37 =>
 Qe C (some (b29, 0)) x37 (fun r39 r40 H41 =>
 slL p_elems 1 (Sl.len p_elems : Int) (Sl.cap p_elems : Int) 1 fun t42 =>
 lp (α := Int) 0 H41 (fun x48 J49 H50 =>
 ift (decide ((x48 : Int) < (Sl.len t42 : Int)))
 (ixa t42 x48 fun p52 =>
 ldS H50 (p52.1, p52.2 + (x48 : Int).toNat * 1) fun x57 =>
 Qe C (some (b29, 0)) p_sep (fun r59 r60 H61 =>
 Qe C (some (b29, 0)) x57 (fun r62 r63 H64 =>
 J49 (w .i64 (x48 + 1)) H64) H61) H50)
 (Qj C (some (b29, 0)) (fun r65 H66 =>
 K r65 H66) H50))) H31) H30) H19)))
 (fun J10 => ift (decide (((List.length p_sep : Int) : Int) > 0))
 ((w .i64 ((Sl.len p_elems : Int) - 1)) ≠ 0 ∧
 ift (decide (((List.length p_sep : Int) : Int) ≥ (w .i64 (Int.tdiv 9223372036854775807 (w .i64 ((Sl.len p_elems : Int) - 1))))))
 (False)
 (J10 (w .i64 (0 + (w .i64 ((List.length p_sep : Int) * (w .i64 ((Sl.len p_elems : Int) - 1)))))) H))
 (J10 0 H))))
theorem Qg7 (C p_elems p_sep K H) (h : Qes C p_elems p_sep K H) : Qc0 C p_elems p_sep K H := by
 refine Ye Tryz.func36 rfl Tryz.ntmps36 [(0, slv p_elems), (1, sv p_sep)] (Zo (Za (GL.nil (GC.seq (Zo (Zm (Zq (GL.nil (GC.block (Zo (Zi (.bool (((Sl.len p_elems : Int) : Int) == 0)) (Za (GL.nil (Yd h (fun u1 h => ?_) fun u1 h => ?_))))))))))))))
 refine Zo (Za (GL.nil ?_))
 exact Y1 I3 ⟨[], rfl, h⟩
 refine Zo (Zi (.bool (((Sl.len p_elems : Int) : Int) == 1)) (Za (GL.nil (Yd h (fun u2 h => ?_) fun u2 h => ?_))))
 refine Zo (Zm (Yx h fun p3 h => ?_))
 refine Yl h fun x8 h => ?_
 refine Za (GL.nil ?_)
 exact Y1 I3 ⟨x8, rfl, h⟩
 refine GC.skip_to (fun _ _ h => h) (Zo (Za (GL.nil ?_)))
 obtain ⟨J10, h, hR13⟩ := h
 refine GC.join (α := Int) J10 (fun x11 => [(5, .int .i64 x11), (0, slv p_elems), (1, sv p_sep)]) ?_ ?_
 refine Zo (Zm (Zr (Zi (.bool (decide (((List.length p_sep : Int) : Int) > 0))) (GL.nil (Yd h (fun u14 h => ?_) fun u14 h => ?_)))))
 refine GC.seq (Zo (Zm (Zr (Zm (Zq (Zi (.int .i64 (w .i64 ((Sl.len p_elems : Int) - 1))) ?_))))))
 obtain ⟨hb15, h⟩ := h
 refine Zv (OV.quo rfl rfl hb15) (Zi (.bool (decide (((List.length p_sep : Int) : Int) ≥ (w .i64 (Int.tdiv 9223372036854775807 (w .i64 ((Sl.len p_elems : Int) - 1))))))) (GL.nil (Yd h (fun u16 h => ?_) fun u16 h => ?_)))
 exact GC.never h
 refine GC.skip (GC.region (Zm (Zm (Zr (Zm (Zq (Zi (.int .i64 (w .i64 ((Sl.len p_elems : Int) - 1))) (Zi (.int .i64 (w .i64 ((List.length p_sep : Int) * (w .i64 ((Sl.len p_elems : Int) - 1))))) (Zi (.int .i64 (w .i64 (0 + (w .i64 ((List.length p_sep : Int) * (w .i64 ((Sl.len p_elems : Int) - 1))))))) (Za ?_))))))))))
 exact Yj I3 (w .i64 (0 + (w .i64 ((List.length p_sep : Int) * (w .i64 ((Sl.len p_elems : Int) - 1)))))) h
 exact Yk I3 0 h
 intro x11 H12 h
 replace h := hR13 x11 H12 h
 refine GC.seq (Zo (Zm (Zq (Zm (GL.nil (GC.block (Yp h (fun x17 => [(5, .int .i64 x17.1), (41, .int .i64 x17.2), (0, slv p_elems), (1, sv p_sep), (39, slv p_elems), (40, .int .i64 (Sl.len p_elems : Int))]) ?_)))))))
 intro x17 H19 J18 h
 refine Zo (Zi (.bool (decide ((x17.2 : Int) < (Sl.len p_elems : Int)))) (GL.nil (GC.seq (Yd h (fun u20 h => ?_) fun u20 h => ?_))))
 refine GC.skip (GC.seq (GC.block (Zo (Yx h fun p21 h => ?_))))
 refine Yl h fun x26 h => ?_
 refine Za (GL.nil (GC.seq (Zo (Zm (Zr (Zm (Zi (.int .i64 (w .i64 (9223372036854775807 - x17.1))) (Zi (.bool (decide (((List.length x26 : Int) : Int) > (w .i64 (9223372036854775807 - x17.1))))) (GL.nil (Yd h (fun u28 h => ?_) fun u28 h => ?_))))))))))
 exact GC.never h
 refine GC.skip (GC.region (Zm (Zm (Zr (Zi (.int .i64 (w .i64 (x17.1 + (List.length x26 : Int)))) (Za (GL.nil_to (fun _ _ h => h) (GC.region (Zi (.int .i64 (w .i64 (x17.2 + 1))) (Zm ?_))))))))))
 exact Yj I3 ((w .i64 (x17.1 + (List.length x26 : Int))), (w .i64 (x17.2 + 1))) h
 refine GC.exit_to (fun _ _ h => h) (Zo (GL.allocB (T := 84) (e := 5) h trivial rfl rfl rfl ?_))
 intro b29 H30 h
 refine GL.nil (Zo (Zm (Zc h QdM ?_)))
 rintro _ H31 ⟨rfl, h⟩
 refine GL.nil (Zo (Zm (Yx h fun p32 h => ?_)))
 refine Yl h fun x37 h => ?_
 refine Zc h QI ?_
 rintro _ H41 ⟨r39, r40, rfl, h⟩
 refine GL.nil (GC.seq (Zo (Zm ?_)))
 obtain ⟨h43, h44, h45, h46, t42, h47, h⟩ := h
 refine Zv (OV.sliceSl (s := p_elems) h43 h44 h45 h46 h47 rfl rfl rfl rfl rfl rfl rfl (fun h => by first | rfl | cases h) rfl rfl) (Zq (Zm (GL.nil (GC.block (Yp h (fun x48 => [(65, .int .i64 x48), (1, sv p_sep), (8, pv (some (b29, 0))), (63, slv t42), (64, .int .i64 (Sl.len t42 : Int))]) ?_)))))
 intro x48 H50 J49 h
 refine Zo (Zi (.bool (decide ((x48 : Int) < (Sl.len t42 : Int)))) (GL.nil (GC.seq (Yd h (fun u51 h => ?_) fun u51 h => ?_))))
 refine GC.skip (GC.seq (GC.block (Zo (Yx h fun p52 h => ?_))))
 refine Yl h fun x57 h => ?_
 refine Za (GL.nil (Zo (Zm (Zc h QI ?_))))
 rintro _ H61 ⟨r59, r60, rfl, h⟩
 refine GL.nil (GC.region (Zm (Zc h QI ?_)))
 rintro _ H64 ⟨r62, r63, rfl, h⟩
 refine GL.nil_to (fun _ _ h => h) (GC.region (Zi (.int .i64 (w .i64 (x48 + 1))) (Zm ?_)))
 exact Yj I3 (w .i64 (x48 + 1)) h
 refine GC.exit_to (fun _ _ h => h) (Zo (Zc h Qc7 ?_))
 rintro _ H66 ⟨r65, rfl, h⟩
 refine Za (GL.nil ?_)
 exact Y1 I3 ⟨r65, rfl, h⟩
def Qbu (C : Ctx) (p_s : Sl) (K : Sl → Heap → Prop) (H : Heap) : Prop :=
 ift (Sl.isNil p_s)
 (K Sl.nil H)
 (nw ([]) (fun b2 H3 =>
 apS ([.int .i64 0]) 8 (Sl.of (some (b2, 0)) 0 0) p_s (fun r4 H5 =>
 K r4 H5) H3) H)
theorem Qdt (C p_s K H) (h : Qbu C p_s K H) : QW C p_s K H := by
 refine Ye Tryz.func37 rfl Tryz.ntmps37 [(0, slv p_s)] (Zo (Za (GL.nil (GC.seq (Zo (Zm (Zv (OV.eqlSl (s := p_s) rfl rfl rfl) (GL.nil (Yd h (fun u1 h => ?_) fun u1 h => ?_)))))))))
 refine Zo (Za (GL.nil ?_))
 exact Y1 I3 ⟨Sl.nil, rfl, h⟩
 refine GC.skip (Zo (GL.buildSlice (cs := []) h trivial rfl (vs := []) rfl ⟨3, fun _ => by kernel_rfl⟩ ?_))
 intro b2 H3 h
 refine Zm (GL.appendS (s := (Sl.of (some (b2, 0)) 0 0)) (s2 := p_s) (zc := [.int .i64 0]) (bytes := 8) h trivial rfl rfl rfl ⟨⟨_, _, _, rfl, rfl, rfl, rfl, rfl, rfl⟩⟩ rfl ?_)
 intro r4 H5 h
 refine Za (GL.nil ?_)
 exact Y1 I3 ⟨r4, rfl, h⟩
def QdT (C : Ctx) (p_r : Option Nat) (K : Sl → Heap → Prop) (H : Heap) : Prop :=
 rgM (fun x : Sl => (slv x : Value)) p_r (fun b1 H2 =>
 lp (α := Sl) Sl.nil H2 (fun x3 J4 H5 =>
 nxB (fun x : Sl => (slv x : Value)) b1 (fun b6 H7 =>
 ift b6
 (enM (fun x : Sl => (slv x : Value)) b1 (fun k9 x10 =>
 QZ C x10 (fun r12 H13 =>
 apd ([slv Sl.nil]) 24 x3 ([slv r12]) 1 (fun r14 H15 =>
 J4 r14 H15) H13) H7) H7)
 (QM C x3 (.func (.func 53) (List.toArray []) (List.toArray []) : Value) (fun H16 =>
 K x3 H16) H7)) H5)) H
theorem Qfr (C p_r K H) (h : QdT C p_r K H) : Qai C p_r K H := by
 refine Ye Tryz.func38 rfl Tryz.ntmps38 [(0, mv p_r)] (Zo (Za (GL.nil (Zo (Za (GL.nil (GC.seq (Zo (Zm (GL.rangeQ (enc := (fun x : Sl => (slv x : Value))) (q := p_r) h trivial rfl rfl rfl ?_))))))))))
 intro b1 H2 h
 refine GL.nil (GC.block (Yp h (fun x3 => [(3, slv x3), (7, pv (some (b1, 0)))]) ?_))
 intro x3 H5 J4 h
 refine Zo (GL.nextB (enc := (fun x : Sl => (slv x : Value))) (it := b1) h trivial rfl rfl rfl rfl rfl ?_)
 intro b6 H7 h
 refine GL.nil (GC.seq (Yd h (fun u8 h => ?_) fun u8 h => ?_))
 refine GC.skip (GC.block (Zo ?_))
 obtain ⟨k9, x10, v11, h⟩ := h
 refine Zv (OV.entryM (enc := (fun x : Sl => (slv x : Value))) (it := b1) (k := k9) (x := x10) (v := .tuple #[sv k9, slv x10]) rfl v11 rfl) (Yv (slv x10) rfl rfl (Za (GL.nil (GC.region (Zm (Zm (Zc h Qc4 ?_)))))))
 rintro _ H13 ⟨r12, rfl, h⟩
 refine GL.appendLit (s := x3) (ys := [slv r12]) (zc := [slv Sl.nil]) (bytes := 24) h trivial rfl (fun _ => trivial) rfl (fun _ => rfl) (fun _ => rfl) (vs := [(0, slv r12)]) rfl ⟨24, fun _ => by kernel_rfl⟩ ⟨⟨_, _, _, rfl, rfl, rfl, rfl, rfl, rfl⟩⟩ rfl rfl ?_
 intro _ r14 H15 h
 refine Za ?_
 exact Yj I3 r14 h
 refine GC.exit_to (fun _ _ h => h) (Zo (Zm (Zc h QaV ?_)))
 rintro _ H16 ⟨rfl, h⟩
 refine GL.nil (Zo (Zm (Za (GL.nil ?_))))
 exact Y1 I3 ⟨x3, rfl, h⟩
def QeY (C : Ctx) (p_v : Qa) (K : Int → Heap → Prop) (H : Heap) : Prop :=
 nw (Qa.c p_v) (fun b1 H2 =>
 lp (α := Int × Int) (0, 0) H2 (fun x3 J4 H5 =>
 ldL H5 ((b1, 0).1, (b1, 0).2 + 3) fun x6 =>
 ift (decide ((x3.2 : Int) < (Sl.len x6 : Int)))
 (ldL H5 ((b1, 0).1, (b1, 0).2 + 3) fun x9 =>
 ixa x9 x3.2 fun p11 =>
 ldT H5 Qa.c (p11.1, p11.2 + (x3.2 : Int).toNat * 4) fun x16 =>
 QP C x16 (fun r18 H19 =>
 J4 ((if r18 > x3.1 then r18 else x3.1 : Int), (w .i64 (x3.2 + 1))) H19) H5)
 (K (w .i64 (x3.1 + 1)) H5))) H
theorem QhS (C p_v K H) (h : QeY C p_v K H) : QP C p_v K H := by
 refine Ye Tryz.func39 rfl Tryz.ntmps39 [(0, .agg (Qa.c p_v).toArray)] (Zo (GL.box (v := .agg (Qa.c p_v).toArray) (cs := Qa.c p_v) h trivial rfl rfl rfl ?_))
 intro b1 H2 h
 refine Za (GL.nil (Zo (Za (GL.nil (GC.seq (Zo (Za (GL.nil (GC.block (Yp h (fun x3 => [(3, .int .i64 x3.1), (4, .int .i64 x3.2), (1, pv (some (b1, 0)))]) ?_))))))))))
 intro x3 H5 J4 h
 refine GC.seq (Zo (Zm (Zf (Yl h fun x6 h => ?_))))
 refine Zq (Zi (.bool (decide ((x3.2 : Int) < (Sl.len x6 : Int)))) (GL.nil (Yd h (fun u8 h => ?_) fun u8 h => ?_)))
 refine GC.skip (GC.seq (GC.block (GC.region (Zm (Zf (Yl h fun x9 h => ?_))))))
 refine Zm (Yx h fun p11 h => ?_)
 obtain ⟨x16, v17, h⟩ := h
 refine Zv (OV.loadT rfl rfl rfl v17) (Zc h QeO ?_)
 rintro _ H19 ⟨r18, rfl, h⟩
 refine Zv (OV.maxI rfl rfl) (Za (GL.nil_to (fun _ _ h => h) (GC.region (Zm (Zi (.int .i64 (w .i64 (x3.2 + 1))) (Za ?_))))))
 exact Yj I3 ((if r18 > x3.1 then r18 else x3.1 : Int), (w .i64 (x3.2 + 1))) h
 refine GC.exit_to (fun _ _ h => h) (Zo (Zm (Zi (.int .i64 (w .i64 (x3.1 + 1))) (Za (GL.nil ?_)))))
 exact Y1 I3 ⟨(w .i64 (x3.1 + 1)), rfl, h⟩
def Qf0 (C : Ctx) (p_v : Qa) (K : Bool → Heap → Prop) (H : Heap) : Prop :=
 nw (Qa.c p_v) (fun b1 H2 =>
 jn (α := Bool) (fun x4 H5 =>
 lp (α := Bool × Int) (x4, 0) H5 (fun x101 J102 H103 =>
 ldL H103 ((b1, 0).1, (b1, 0).2 + 3) fun x104 =>
 ift ((decide ((x101.2 : Int) < (Sl.len x104 : Int))) && x101.1)
 (ldL H103 ((b1, 0).1, (b1, 0).2 + 3) fun x108 =>
 ixa x108 x101.2 fun p110 =>
 ldT H103 Qa.c (p110.1, p110.2 + (x101.2 : Int).toNat * 4) fun x115 =>
 Q4 C x115 (fun r117 H118 =>
 J102 (r117, (w .i64 (x101.2 + 1))) H118) H103)
 (K x101.1 H103)))
 (fun J3 => ldI H2 .u8 ((b1, 0).1, (b1, 0).2 + 0) fun x7 =>
 ift ((x7 : Int) == 1)
 (ldI H2 .i64 ((b1, 0).1, (b1, 0).2 + 1) fun x10 =>
 jn (α := Bool) (fun b12 H18 =>
 jn (α := Bool) (fun b19 H25 =>
 jn (α := Bool) (fun b26 H32 =>
 J3 b26 H32)
 (fun J27 => ift b19
 (ldL H25 ((b1, 0).1, (b1, 0).2 + 3) fun x30 =>
 J27 (((Sl.len x30 : Int) : Int) == 0) H25)
 (J27 false H25)))
 (fun J20 => ift b12
 (ldS H18 ((b1, 0).1, (b1, 0).2 + 2) fun x23 =>
 J20 (x23 == ([] : Str)) H18)
 (J20 false H18)))
 (fun J13 => ift ((x10 : Int) == 0)
 (J13 true H2)
 (ldI H2 .i64 ((b1, 0).1, (b1, 0).2 + 1) fun x16 =>
 J13 ((x16 : Int) == 1) H2)))
 (ift ((x7 : Int) == 2)
 (ldS H2 ((b1, 0).1, (b1, 0).2 + 2) fun x34 =>
 jn (α := Bool) (fun b36 H42 =>
 J3 b36 H42)
 (fun J37 => ift (x34 == ([] : Str))
 (ldL H2 ((b1, 0).1, (b1, 0).2 + 3) fun x40 =>
 J37 (((Sl.len x40 : Int) : Int) == 0) H2)
 (J37 false H2)))
 (ift ((x7 : Int) == 3)
 (ldI H2 .i64 ((b1, 0).1, (b1, 0).2 + 1) fun x44 =>
 jn (α := Bool) (fun b46 H52 =>
 jn (α := Bool) (fun b53 H61 =>
 J3 b53 H61)
 (fun J54 => ift b46
 (ldS H52 ((b1, 0).1, (b1, 0).2 + 2) fun x57 =>
 QcZ C x57 (fun r59 H60 =>
 J54 r59 H60) H52)
 (J54 false H52)))
 (fun J47 => ift ((x44 : Int) == 0)
 (ldL H2 ((b1, 0).1, (b1, 0).2 + 3) fun x50 =>
 J47 (((Sl.len x50 : Int) : Int) == 0) H2)
 (J47 false H2)))
 (ift ((x7 : Int) == 4)
 (ldI H2 .i64 ((b1, 0).1, (b1, 0).2 + 1) fun x63 =>
 jn (α := Bool) (fun b65 H71 =>
 J3 b65 H71)
 (fun J66 => ift ((x63 : Int) == 0)
 (ldL H2 ((b1, 0).1, (b1, 0).2 + 3) fun x69 =>
 J66 (((Sl.len x69 : Int) : Int) == 0) H2)
 (J66 false H2)))
 (ift ((x7 : Int) == 5)
 (ldI H2 .i64 ((b1, 0).1, (b1, 0).2 + 1) fun x73 =>
 jn (α := Bool) (fun b75 H81 =>
 jn (α := Bool) (fun b82 H88 =>
 J3 b82 H88)
 (fun J83 => ift b75
 (ldL H81 ((b1, 0).1, (b1, 0).2 + 3) fun x86 =>
 J83 (((Sl.len x86 : Int) : Int) != 1) H81)
 (J83 false H81)))
 (fun J76 => ift ((x73 : Int) == 0)
 (ldS H2 ((b1, 0).1, (b1, 0).2 + 2) fun x79 =>
 J76 (x79 == ([] : Str)) H2)
 (J76 false H2)))
 (ift ((x7 : Int) == 6)
 (ldI H2 .i64 ((b1, 0).1, (b1, 0).2 + 1) fun x90 =>
 jn (α := Bool) (fun b92 H100 =>
 J3 b92 H100)
 (fun J93 => ift ((x90 : Int) == 0)
 (ldS H2 ((b1, 0).1, (b1, 0).2 + 2) fun x96 =>
 QdB C x96 (fun r98 H99 =>
 J93 r98 H99) H2)
 (J93 false H2)))
 (J3 false H2)))))))) H
theorem Qiy (C p_v K H) (h : Qf0 C p_v K H) : Q4 C p_v K H := by
 refine Ye Tryz.func40 rfl Tryz.ntmps40 [(0, .agg (Qa.c p_v).toArray)] (Zo (GL.box (v := .agg (Qa.c p_v).toArray) (cs := Qa.c p_v) h trivial rfl rfl rfl ?_))
 intro b1 H2 h
 refine Za (GL.nil (Zo (Za (GL.nil ?_))))
 obtain ⟨J3, h, hR6⟩ := h
 refine GC.join (α := Bool) J3 (fun x4 => [(3, .bool x4), (1, pv (some (b1, 0)))]) ?_ ?_
 refine Zo (Zf (Yl h fun x7 h => ?_))
 refine GL.nil (GC.block (Zo (Zi (.bool ((x7 : Int) == 1)) (Za (GL.nil (Yd h (fun u9 h => ?_) fun u9 h => ?_))))))
 refine GC.region (Zf (Yl h fun x10 h => ?_))
 refine Zi (.bool ((x10 : Int) == 0)) (Zm ?_)
 obtain ⟨J13, h, hR14⟩ := h
 refine GL.cut (α := Bool) 4 J13 (fun b12 => [(16, .bool b12), (1, pv (some (b1, 0)))]) ?_ ?_
 rcases h.em with ⟨u15, h⟩ | ⟨u15, h⟩
 refine Zk u15 (Zk u15 (Zk u15 (Zt u15 ?_)))
 exact Yj I3 true h
 refine Zu u15 Yf ?_
 obtain ⟨x16, v17, h⟩ := h
 refine Zu u15 (Yo v17) (Zu u15 (OV.ibin (v := .bool ((x16 : Int) == 1)) rfl rfl rfl) (Zn u15 ?_))
 exact Yj I3 ((x16 : Int) == 1) h
 intro b12 H18 h
 replace h := hR14 b12 H18 h
 refine Zm ?_
 obtain ⟨J20, h, hR21⟩ := h
 refine GL.cut (α := Bool) 4 J20 (fun b19 => [(21, .bool b19), (1, pv (some (b1, 0)))]) ?_ ?_
 rcases h.em with ⟨u22, h⟩ | ⟨u22, h⟩
 refine Zu u22 Yf ?_
 obtain ⟨x23, v24, h⟩ := h
 refine Zu u22 (Yo v24) (Zu u22 (OV.sbin (a := x23) (b := ([] : Str)) (v := .bool (x23 == ([] : Str))) rfl rfl rfl) (Zt u22 ?_))
 exact Yj I3 (x23 == ([] : Str)) h
 refine Zk u22 (Zk u22 (Zk u22 (Zn u22 ?_)))
 exact Yj I3 false h
 intro b19 H25 h
 replace h := hR21 b19 H25 h
 refine Zm ?_
 obtain ⟨J27, h, hR28⟩ := h
 refine GL.cut (α := Bool) 5 J27 (fun b26 => [(27, .bool b26), (1, pv (some (b1, 0)))]) ?_ ?_
 rcases h.em with ⟨u29, h⟩ | ⟨u29, h⟩
 refine Zu u29 Yf ?_
 obtain ⟨x30, v31, h⟩ := h
 refine Zu u29 (Yo v31) (Zu u29 (OV.lenSl rfl rfl) (Zu u29 (OV.ibin (v := .bool (((Sl.len x30 : Int) : Int) == 0)) rfl rfl rfl) (Zt u29 ?_)))
 exact Yj I3 (((Sl.len x30 : Int) : Int) == 0) h
 refine Zk u29 (Zk u29 (Zk u29 (Zk u29 (Zn u29 ?_))))
 exact Yj I3 false h
 intro b26 H32 h
 replace h := hR28 b26 H32 h
 refine Za ?_
 exact Yj I3 b26 h
 refine Zo (Zi (.bool ((x7 : Int) == 2)) (Za (GL.nil (Yd h (fun u33 h => ?_) fun u33 h => ?_))))
 refine GC.region (Zf (Yl h fun x34 h => ?_))
 refine Zv (OV.sbin (a := x34) (b := ([] : Str)) (v := .bool (x34 == ([] : Str))) rfl rfl rfl) (Zm ?_)
 obtain ⟨J37, h, hR38⟩ := h
 refine GL.cut (α := Bool) 5 J37 (fun b36 => [(38, .bool b36), (1, pv (some (b1, 0)))]) ?_ ?_
 rcases h.em with ⟨u39, h⟩ | ⟨u39, h⟩
 refine Zu u39 Yf ?_
 obtain ⟨x40, v41, h⟩ := h
 refine Zu u39 (Yo v41) (Zu u39 (OV.lenSl rfl rfl) (Zu u39 (OV.ibin (v := .bool (((Sl.len x40 : Int) : Int) == 0)) rfl rfl rfl) (Zt u39 ?_)))
 exact Yj I3 (((Sl.len x40 : Int) : Int) == 0) h
 refine Zk u39 (Zk u39 (Zk u39 (Zk u39 (Zn u39 ?_))))
 exact Yj I3 false h
 intro b36 H42 h
 replace h := hR38 b36 H42 h
 refine Za ?_
 exact Yj I3 b36 h
 refine Zo (Zi (.bool ((x7 : Int) == 3)) (Za (GL.nil (Yd h (fun u43 h => ?_) fun u43 h => ?_))))
 refine GC.region (Zf (Yl h fun x44 h => ?_))
 refine Zi (.bool ((x44 : Int) == 0)) (Zm ?_)
 obtain ⟨J47, h, hR48⟩ := h
 refine GL.cut (α := Bool) 5 J47 (fun b46 => [(49, .bool b46), (1, pv (some (b1, 0)))]) ?_ ?_
 rcases h.em with ⟨u49, h⟩ | ⟨u49, h⟩
 refine Zu u49 Yf ?_
 obtain ⟨x50, v51, h⟩ := h
 refine Zu u49 (Yo v51) (Zu u49 (OV.lenSl rfl rfl) (Zu u49 (OV.ibin (v := .bool (((Sl.len x50 : Int) : Int) == 0)) rfl rfl rfl) (Zt u49 ?_)))
 exact Yj I3 (((Sl.len x50 : Int) : Int) == 0) h
 refine Zk u49 (Zk u49 (Zk u49 (Zk u49 (Zn u49 ?_))))
 exact Yj I3 false h
 intro b46 H52 h
 replace h := hR48 b46 H52 h
 refine Zm ?_
 obtain ⟨J54, h, hR55⟩ := h
 refine GL.cut (α := Bool) 4 J54 (fun b53 => [(54, .bool b53), (1, pv (some (b1, 0)))]) ?_ ?_
 rcases h.em with ⟨u56, h⟩ | ⟨u56, h⟩
 refine Zu u56 Yf ?_
 obtain ⟨x57, v58, h⟩ := h
 refine Zu u56 (Yo v58) (GL.call h (Yt u56) rfl Qhs (vs := [sv x57]) rfl ?_)
 rintro _ H60 ⟨r59, rfl, h⟩
 refine Zt u56 ?_
 exact Yj I3 r59 h
 refine Zk u56 (Zk u56 (Zk u56 (Zn u56 ?_)))
 exact Yj I3 false h
 intro b53 H61 h
 replace h := hR55 b53 H61 h
 refine Za ?_
 exact Yj I3 b53 h
 refine Zo (Zi (.bool ((x7 : Int) == 4)) (Za (GL.nil (Yd h (fun u62 h => ?_) fun u62 h => ?_))))
 refine GC.region (Zf (Yl h fun x63 h => ?_))
 refine Zi (.bool ((x63 : Int) == 0)) (Zm ?_)
 obtain ⟨J66, h, hR67⟩ := h
 refine GL.cut (α := Bool) 5 J66 (fun b65 => [(65, .bool b65), (1, pv (some (b1, 0)))]) ?_ ?_
 rcases h.em with ⟨u68, h⟩ | ⟨u68, h⟩
 refine Zu u68 Yf ?_
 obtain ⟨x69, v70, h⟩ := h
 refine Zu u68 (Yo v70) (Zu u68 (OV.lenSl rfl rfl) (Zu u68 (OV.ibin (v := .bool (((Sl.len x69 : Int) : Int) == 0)) rfl rfl rfl) (Zt u68 ?_)))
 exact Yj I3 (((Sl.len x69 : Int) : Int) == 0) h
 refine Zk u68 (Zk u68 (Zk u68 (Zk u68 (Zn u68 ?_))))
 exact Yj I3 false h
 intro b65 H71 h
 replace h := hR67 b65 H71 h
 refine Za ?_
 exact Yj I3 b65 h
 refine Zo (Zi (.bool ((x7 : Int) == 5)) (Za (GL.nil (Yd h (fun u72 h => ?_) fun u72 h => ?_))))
 refine GC.region (Zf (Yl h fun x73 h => ?_))
 refine Zi (.bool ((x73 : Int) == 0)) (Zm ?_)
 obtain ⟨J76, h, hR77⟩ := h
 refine GL.cut (α := Bool) 4 J76 (fun b75 => [(75, .bool b75), (1, pv (some (b1, 0)))]) ?_ ?_
 rcases h.em with ⟨u78, h⟩ | ⟨u78, h⟩
 refine Zu u78 Yf ?_
 obtain ⟨x79, v80, h⟩ := h
 refine Zu u78 (Yo v80) (Zu u78 (OV.sbin (a := x79) (b := ([] : Str)) (v := .bool (x79 == ([] : Str))) rfl rfl rfl) (Zt u78 ?_))
 exact Yj I3 (x79 == ([] : Str)) h
 refine Zk u78 (Zk u78 (Zk u78 (Zn u78 ?_)))
 exact Yj I3 false h
 intro b75 H81 h
 replace h := hR77 b75 H81 h
 refine Zm ?_
 obtain ⟨J83, h, hR84⟩ := h
 refine GL.cut (α := Bool) 5 J83 (fun b82 => [(81, .bool b82), (1, pv (some (b1, 0)))]) ?_ ?_
 rcases h.em with ⟨u85, h⟩ | ⟨u85, h⟩
 refine Zu u85 Yf ?_
 obtain ⟨x86, v87, h⟩ := h
 refine Zu u85 (Yo v87) (Zu u85 (OV.lenSl rfl rfl) (Zu u85 (OV.ibin (v := .bool (((Sl.len x86 : Int) : Int) != 1)) rfl rfl rfl) (Zt u85 ?_)))
 exact Yj I3 (((Sl.len x86 : Int) : Int) != 1) h
 refine Zk u85 (Zk u85 (Zk u85 (Zk u85 (Zn u85 ?_))))
 exact Yj I3 false h
 intro b82 H88 h
 replace h := hR84 b82 H88 h
 refine Za ?_
 exact Yj I3 b82 h
 refine Zo (Zi (.bool ((x7 : Int) == 6)) (Za (GL.nil (Yd h (fun u89 h => ?_) fun u89 h => ?_))))
 refine GC.region (Zf (Yl h fun x90 h => ?_))
 refine Zi (.bool ((x90 : Int) == 0)) (Zm ?_)
 obtain ⟨J93, h, hR94⟩ := h
 refine GL.cut (α := Bool) 4 J93 (fun b92 => [(91, .bool b92), (1, pv (some (b1, 0)))]) ?_ ?_
 rcases h.em with ⟨u95, h⟩ | ⟨u95, h⟩
 refine Zu u95 Yf ?_
 obtain ⟨x96, v97, h⟩ := h
 refine Zu u95 (Yo v97) (GL.call h (Yt u95) rfl Qh2 (vs := [sv x96]) rfl ?_)
 rintro _ H99 ⟨r98, rfl, h⟩
 refine Zt u95 ?_
 exact Yj I3 r98 h
 refine Zk u95 (Zk u95 (Zk u95 (Zn u95 ?_)))
 exact Yj I3 false h
 intro b92 H100 h
 replace h := hR94 b92 H100 h
 refine Za ?_
 exact Yj I3 b92 h
 exact Yk I3 false h
 intro x4 H5 h
 replace h := hR6 x4 H5 h
 refine GC.seq (Zo (Za (GL.nil (GC.block (Yp h (fun x101 => [(3, .bool x101.1), (4, .int .i64 x101.2), (1, pv (some (b1, 0)))]) ?_)))))
 intro x101 H103 J102 h
 refine GC.seq (Zo (Zm (Zf (Yl h fun x104 h => ?_))))
 refine Zq (Zi (.bool (decide ((x101.2 : Int) < (Sl.len x104 : Int)))) (Zm (GL.cut0 2 [(99, .bool ((decide ((x101.2 : Int) < (Sl.len x104 : Int))) && x101.1)), (1, pv (some (b1, 0))), (3, .bool x101.1), (4, .int .i64 x101.2)] ?_ ?_)))
 rcases Zb (decide ((x101.2 : Int) < (Sl.len x104 : Int))) with u106 | u106
 refine Zu u106 Ym (Zt u106 ?_)
 exact GL.jump0 (fun _ _ h => h) () rfl ⟨(by rw [u106]; rfl), rfl, rfl, rfl, trivial⟩
 refine Zk u106 (Zn u106 ?_)
 exact GL.jump0 (fun _ _ h => h) () rfl ⟨(by rw [u106]; rfl), rfl, rfl, rfl, trivial⟩
 refine GL.nil (Yd h (fun u107 h => ?_) fun u107 h => ?_)
 refine GC.skip (GC.seq (GC.block (GC.region (Zf (Yl h fun x108 h => ?_)))))
 refine Zm (Yx h fun p110 h => ?_)
 obtain ⟨x115, v116, h⟩ := h
 refine Zv (OV.loadT rfl rfl rfl v116) (Zc h QfL ?_)
 rintro _ H118 ⟨r117, rfl, h⟩
 refine Za (GL.nil_to (fun _ _ h => h) (GC.region (Zm (Zi (.int .i64 (w .i64 (x101.2 + 1))) (Za ?_)))))
 exact Yj I3 (r117, (w .i64 (x101.2 + 1))) h
 refine GC.exit_to (fun _ _ h => h) (Zo (Zm (Za (GL.nil ?_))))
 exact Y1 I3 ⟨x101.1, rfl, h⟩
def QfZ (C : Ctx) (p_v : Qa) (K : Bool → Heap → Prop) (H : Heap) : Prop :=
 nw (Qa.c p_v) (fun b1 H2 =>
 jn (α := Bool) (fun x4 H5 =>
 lp (α := Bool × Int) (x4, 0) H5 (fun x23 J24 H25 =>
 ldL H25 ((b1, 0).1, (b1, 0).2 + 3) fun x26 =>
 ift ((decide ((x23.2 : Int) < (Sl.len x26 : Int))) && x23.1)
 (ldL H25 ((b1, 0).1, (b1, 0).2 + 3) fun x30 =>
 ixa x30 x23.2 fun p32 =>
 ldT H25 Qa.c (p32.1, p32.2 + (x23.2 : Int).toNat * 4) fun x37 =>
 Q3 C x37 (fun r39 H40 =>
 J24 (r39, (w .i64 (x23.2 + 1))) H40) H25)
 (K x23.1 H25)))
 (fun J3 => ldI H2 .u8 ((b1, 0).1, (b1, 0).2 + 0) fun x7 =>
 ift ((x7 : Int) == 3)
 (ldS H2 ((b1, 0).1, (b1, 0).2 + 2) fun x10 =>
 QcY C x10 (fun r12 H13 =>
 J3 (decide ((r12 : Int) ≤ 200)) H13) H2)
 (ift ((x7 : Int) == 4)
 (ldS H2 ((b1, 0).1, (b1, 0).2 + 2) fun x15 =>
 J3 (decide (((List.length x15 : Int) : Int) ≤ 4096)) H2)
 (ift ((x7 : Int) == 5)
 (ldL H2 ((b1, 0).1, (b1, 0).2 + 3) fun x18 =>
 J3 (decide (((Sl.len x18 : Int) : Int) ≤ 16)) H2)
 (ift ((x7 : Int) == 6)
 (ldL H2 ((b1, 0).1, (b1, 0).2 + 3) fun x21 =>
 J3 (decide (((Sl.len x21 : Int) : Int) ≤ 8)) H2)
 (J3 true H2)))))) H
theorem Qix (C p_v K H) (h : QfZ C p_v K H) : Q3 C p_v K H := by
 refine Ye Tryz.func41 rfl Tryz.ntmps41 [(0, .agg (Qa.c p_v).toArray)] (Zo (GL.box (v := .agg (Qa.c p_v).toArray) (cs := Qa.c p_v) h trivial rfl rfl rfl ?_))
 intro b1 H2 h
 refine Za (GL.nil (Zo (Za (GL.nil ?_))))
 obtain ⟨J3, h, hR6⟩ := h
 refine GC.join (α := Bool) J3 (fun x4 => [(3, .bool x4), (1, pv (some (b1, 0)))]) ?_ ?_
 refine Zo (Zf (Yl h fun x7 h => ?_))
 refine GL.nil (GC.block (Zo (Zi (.bool ((x7 : Int) == 3)) (Za (GL.nil (Yd h (fun u9 h => ?_) fun u9 h => ?_))))))
 refine GC.region (Zf (Yl h fun x10 h => ?_))
 refine Zc h Qhr ?_
 rintro _ H13 ⟨r12, rfl, h⟩
 refine Zi (.bool (decide ((r12 : Int) ≤ 200))) (Za ?_)
 exact Yj I3 (decide ((r12 : Int) ≤ 200)) h
 refine Zo (Zi (.bool ((x7 : Int) == 4)) (Za (GL.nil (Yd h (fun u14 h => ?_) fun u14 h => ?_))))
 refine GC.region (Zf (Yl h fun x15 h => ?_))
 refine Zr (Zi (.bool (decide (((List.length x15 : Int) : Int) ≤ 4096))) (Za ?_))
 exact Yj I3 (decide (((List.length x15 : Int) : Int) ≤ 4096)) h
 refine Zo (Zi (.bool ((x7 : Int) == 5)) (Za (GL.nil (Yd h (fun u17 h => ?_) fun u17 h => ?_))))
 refine GC.region (Zf (Yl h fun x18 h => ?_))
 refine Zq (Zi (.bool (decide (((Sl.len x18 : Int) : Int) ≤ 16))) (Za ?_))
 exact Yj I3 (decide (((Sl.len x18 : Int) : Int) ≤ 16)) h
 refine Zo (Zi (.bool ((x7 : Int) == 6)) (Za (GL.nil (Yd h (fun u20 h => ?_) fun u20 h => ?_))))
 refine GC.region (Zf (Yl h fun x21 h => ?_))
 refine Zq (Zi (.bool (decide (((Sl.len x21 : Int) : Int) ≤ 8))) (Za ?_))
 exact Yj I3 (decide (((Sl.len x21 : Int) : Int) ≤ 8)) h
 exact Yk I3 true h
 intro x4 H5 h
 replace h := hR6 x4 H5 h
 refine GC.seq (Zo (Za (GL.nil (GC.block (Yp h (fun x23 => [(3, .bool x23.1), (4, .int .i64 x23.2), (1, pv (some (b1, 0)))]) ?_)))))
 intro x23 H25 J24 h
 refine GC.seq (Zo (Zm (Zf (Yl h fun x26 h => ?_))))
 refine Zq (Zi (.bool (decide ((x23.2 : Int) < (Sl.len x26 : Int)))) (Zm (GL.cut0 2 [(38, .bool ((decide ((x23.2 : Int) < (Sl.len x26 : Int))) && x23.1)), (1, pv (some (b1, 0))), (3, .bool x23.1), (4, .int .i64 x23.2)] ?_ ?_)))
 rcases Zb (decide ((x23.2 : Int) < (Sl.len x26 : Int))) with u28 | u28
 refine Zu u28 Ym (Zt u28 ?_)
 exact GL.jump0 (fun _ _ h => h) () rfl ⟨(by rw [u28]; rfl), rfl, rfl, rfl, trivial⟩
 refine Zk u28 (Zn u28 ?_)
 exact GL.jump0 (fun _ _ h => h) () rfl ⟨(by rw [u28]; rfl), rfl, rfl, rfl, trivial⟩
 refine GL.nil (Yd h (fun u29 h => ?_) fun u29 h => ?_)
 refine GC.skip (GC.seq (GC.block (GC.region (Zf (Yl h fun x30 h => ?_)))))
 refine Zm (Yx h fun p32 h => ?_)
 obtain ⟨x37, v38, h⟩ := h
 refine Zv (OV.loadT rfl rfl rfl v38) (Zc h QfK ?_)
 rintro _ H40 ⟨r39, rfl, h⟩
 refine Za (GL.nil_to (fun _ _ h => h) (GC.region (Zm (Zi (.int .i64 (w .i64 (x23.2 + 1))) (Za ?_)))))
 exact Yj I3 (r39, (w .i64 (x23.2 + 1))) h
 refine GC.exit_to (fun _ _ h => h) (Zo (Zm (Za (GL.nil ?_))))
 exact Y1 I3 ⟨x23.1, rfl, h⟩
def QeT (C : Ctx) (p_b : Option (Nat × Nat)) (p_l : Sl) (K : Str → Bool → Heap → Prop) (H : Heap) : Prop :=
 nck p_b fun p1 =>
 ldL H (p1.1, p1.2 + 0) fun x3 =>
 lp (α := Sl × Int) (Sl.nil, 0) H (fun x5 J6 H7 =>
 ift (decide ((x5.2 : Int) < (Sl.len x3 : Int)))
 (ixa x3 x5.2 fun p9 =>
 ldI H7 .i64 (p9.1, p9.2 + (x5.2 : Int).toNat * 1) fun x14 =>
 ift ((decide ((x14 : Int) < 0)) || (decide ((x14 : Int) ≥ (Sl.len p_l : Int))))
 (K [] false H7)
 (ixa p_l x14 fun p18 =>
 ldT H7 Qa.c (p18.1, p18.2 + (x14 : Int).toNat * 4) fun x23 =>
 apd (Qa.c Qa.zero) 56 x5.1 ((Qa.c x23) ++ []) 1 (fun r25 H26 =>
 J6 (r25, (w .i64 (x5.2 + 1))) H26) H7))
 (Qa8 C x5.1 (fun r27 r28 H29 =>
 K r27 r28 H29) H7))
theorem QhN (C p_b p_l K H) (h : QeT C p_b p_l K H) : Qbp C p_b p_l K H := by
 refine Ye Tryz.func42 rfl Tryz.ntmps42 [(0, pv p_b), (1, slv p_l)] (Zo (Za (Za (GL.nil (Zo (Za (GL.nil (GC.seq (Zo (Zm ?_))))))))))
 obtain ⟨p1, hp2, h⟩ := h
 refine Zv (OV.nilCheck (q := p_b) rfl hp2) (Zf (Yl h fun x3 h => ?_))
 refine Zq (Zm (GL.nil (GC.block (Yp h (fun x5 => [(6, slv x5.1), (14, .int .i64 x5.2), (1, slv p_l), (12, slv x3), (13, .int .i64 (Sl.len x3 : Int))]) ?_))))
 intro x5 H7 J6 h
 refine Zo (Zi (.bool (decide ((x5.2 : Int) < (Sl.len x3 : Int)))) (GL.nil (GC.seq (Yd h (fun u8 h => ?_) fun u8 h => ?_))))
 refine GC.skip (GC.seq (GC.block (Zo (Yx h fun p9 h => ?_))))
 refine Yl h fun x14 h => ?_
 refine Za (GL.nil (GC.seq (Zo (Zm (Zi (.bool (decide ((x14 : Int) < 0))) (Zm (GL.cut0 5 [(25, .bool ((decide ((x14 : Int) < 0)) || (decide ((x14 : Int) ≥ (Sl.len p_l : Int))))), (1, slv p_l), (6, slv x5.1), (8, .int .i64 x14), (12, slv x3), (13, .int .i64 (Sl.len x3 : Int)), (14, .int .i64 x5.2)] ?_ ?_)))))))
 rcases Zb (decide ((x14 : Int) < 0)) with u16 | u16
 refine Zk u16 (Zk u16 (Zk u16 (Zk u16 (Zt u16 ?_))))
 exact GL.jump0 (fun _ _ h => h) () rfl ⟨(by rw [u16]; rfl), rfl, rfl, rfl, rfl, rfl, rfl, trivial⟩
 refine Zu u16 Ym (Zu u16 Ym (Zu u16 (OV.lenSl rfl rfl) (Zu u16 (OV.ibin (v := .bool (decide ((x14 : Int) ≥ (Sl.len p_l : Int)))) rfl rfl rfl) (Zn u16 ?_))))
 exact GL.jump0 (fun _ _ h => h) () rfl ⟨(by rw [u16]; rfl), rfl, rfl, rfl, rfl, rfl, rfl, trivial⟩
 refine GL.nil (Yd h (fun u17 h => ?_) fun u17 h => ?_)
 refine Zo (Za (Za (GL.nil ?_)))
 exact Y2 I3 ⟨[], false, rfl, h⟩
 refine GC.skip (GC.region (Zm (Zm (Zm (Yx h fun p18 h => ?_)))))
 obtain ⟨x23, v24, h⟩ := h
 refine Zv (OV.loadT rfl rfl rfl v24) (GL.appendLit (s := x5.1) (ys := (Qa.c x23) ++ []) (zc := Qa.c Qa.zero) (bytes := 56) h trivial rfl (fun _ => trivial) rfl (fun _ => rfl) (fun _ => rfl) (vs := [(0, .agg (Qa.c x23).toArray)]) rfl ⟨36, fun _ => by kernel_rfl⟩ ⟨⟨_, _, _, rfl, rfl, rfl, rfl, rfl, rfl⟩⟩ rfl rfl ?_)
 intro _ r25 H26 h
 refine Za (GL.nil_to (fun _ _ h => h) (GC.region (Zi (.int .i64 (w .i64 (x5.2 + 1))) (Zm ?_))))
 exact Yj I3 (r25, (w .i64 (x5.2 + 1))) h
 refine GC.exit_to (fun _ _ h => h) (Zo (Zm (Zc h QbO ?_)))
 rintro _ H29 ⟨r27, r28, rfl, h⟩
 refine Yv (sv r27) rfl rfl (Yv (.bool r28) rfl rfl (Za (Za (GL.nil ?_))))
 exact Y2 I3 ⟨r27, r28, rfl, h⟩
def QfY (C : Ctx) (p_l : Sl) (K : Sl → Heap → Prop) (H : Heap) : Prop :=
 ift (((Sl.len p_l : Int) : Int) == 0)
 (K Sl.nil H)
 (ift (((Sl.len p_l : Int) : Int) == 1)
 (ixa p_l 0 fun p3 =>
 ldL H (p3.1, p3.2 + (0 : Int).toNat * 1) fun x8 =>
 QaH C x8 (fun r10 H11 =>
 nw ([slv r10]) (fun b12 H13 =>
 K (Sl.of (some (b12, 0)) 1 1) H13) H11) H)
 (dr H fun Hs14 =>
 slL p_l 0 (w .i64 (Int.tdiv (Sl.len p_l : Int) 2)) (Sl.cap p_l : Int) 1 fun t16 =>
 slL p_l (w .i64 (Int.tdiv (Sl.len p_l : Int) 2)) (Sl.len p_l : Int) (Sl.cap p_l : Int) 1 fun t22 =>
 QbM C t16 (fun r29 H30 =>
 Heap.le Hs14 H30 ∧
 QbM C t22 (fun r32 H33 =>
 Heap.le Hs14 H33 ∧
 lp (α := Sl × Int × Int) (Sl.nil, 0, 0) H33 (fun x34 J35 H36 =>
 ift ((decide ((x34.2.1 : Int) < (Sl.len r29 : Int))) || (decide ((x34.2.2 : Int) < (Sl.len r32 : Int))))
 (jn (α := Int) (fun x40 H41 =>
 jn (α := Sl × Int) (fun x65 H66 =>
 ift (decide ((x40 : Int) ≥ 0))
 (J35 (x65.1, x65.2, (w .i64 (x34.2.2 + 1))) H66)
 (J35 (x65.1, x65.2, x34.2.2) H66))
 (fun J64 => ift (decide ((x40 : Int) ≤ 0))
 (ixa r29 x34.2.1 fun p69 =>
 ldL H41 (p69.1, p69.2 + (x34.2.1 : Int).toNat * 1) fun x74 =>
 apd ([slv Sl.nil]) 24 x34.1 ([slv x74]) 1 (fun r76 H77 =>
 J64 (r76, (w .i64 (x34.2.1 + 1))) H77) H41)
 (ixa r32 x34.2.2 fun p78 =>
 ldL H41 (p78.1, p78.2 + (x34.2.2 : Int).toNat * 1) fun x83 =>
 apd ([slv Sl.nil]) 24 x34.1 ([slv x83]) 1 (fun r85 H86 =>
 J64 (r85, x34.2.1) H86) H41)))
 (fun J39 => ift ((x34.2.1 : Int) == (Sl.len r29 : Int))
 (J39 1 H36)
 (ift (decide ((x34.2.2 : Int) < (Sl.len r32 : Int)))
 (dr H36 fun Hs45 =>
 ixa r29 x34.2.1 fun p47 =>
 ldL Hs45 (p47.1, p47.2 + (x34.2.1 : Int).toNat * 1) fun x52 =>
 ixa r32 x34.2.2 fun p54 =>
 ldL Hs45 (p54.1, p54.2 + (x34.2.2 : Int).toNat * 1) fun x59 =>
 Qcb C x52 x59 (fun r62 H63 =>
 Heap.le Hs45 H63 ∧
 J39 r62 H63) H36)
 (J39 (-1) H36))))
 (K x34.1 H36))) H30) H))
theorem Qiw (C p_l K H) (h : QfY C p_l K H) : QbM C p_l K H := by
 refine Ye Tryz.func44 rfl Tryz.ntmps44 [(0, slv p_l)] (Zo (Za (GL.nil (GC.seq (Zo (Zm (Zq (Zi (.bool (((Sl.len p_l : Int) : Int) == 0)) (GL.nil (Yd h (fun u1 h => ?_) fun u1 h => ?_))))))))))
 refine Zo (Za (GL.nil ?_))
 exact Y1 I3 ⟨Sl.nil, rfl, h⟩
 refine GC.skip (GC.seq (Zo (Zm (Zq (Zi (.bool (((Sl.len p_l : Int) : Int) == 1)) (GL.nil (Yd h (fun u2 h => ?_) fun u2 h => ?_)))))))
 refine Zo (Zm (Yx h fun p3 h => ?_))
 refine Yl h fun x8 h => ?_
 refine Zc h QcA ?_
 rintro _ H11 ⟨r10, rfl, h⟩
 refine GL.buildSlice (cs := [slv r10]) h trivial rfl (vs := [(0, slv r10)]) rfl ⟨24, fun _ => by kernel_rfl⟩ ?_
 intro b12 H13 h
 refine Za (GL.nil ?_)
 exact Y1 I3 ⟨(Sl.of (some (b12, 0)) 1 1), rfl, h⟩
 refine GC.skip (GC.seq ?_)
 obtain ⟨Hs14, hle15, h⟩ := h
 refine GC.any (Hs := Hs14) (by kernel_rfl) hle15 (Zp 0 rfl Ym (Zp 1 rfl Ym (Zp 2 rfl (OV.lenSl rfl rfl) (Zp 3 rfl (OV.quo rfl rfl (by decide)) ?_))))
 obtain ⟨h17, h18, h19, h20, t16, h21, h⟩ := h
 refine Zp 4 rfl (OV.sliceSl (s := p_l) h17 h18 h19 h20 h21 rfl rfl rfl rfl rfl rfl rfl (fun h => by first | rfl | cases h) rfl rfl) (Zp 6 rfl Ym (Zp 7 rfl Ym (Zp 8 rfl (OV.lenSl rfl rfl) (Zp 9 rfl (OV.quo rfl rfl (by decide)) ?_))))
 obtain ⟨h23, h24, h25, h26, t22, h27, h⟩ := h
 refine Zp 10 rfl (OV.sliceSl (s := p_l) h23 h24 h25 h26 h27 rfl rfl rfl rfl rfl rfl rfl (fun h => by first | rfl | cases h) rfl rfl) (GA.eff 5 rfl (by kernel_rfl) (Zc h QdJ ?_))
 rintro _ H30 ⟨r29, rfl, h⟩
 obtain ⟨hle28, h⟩ := h
 refine GA.back hle28 (GA.eff 11 rfl (by kernel_rfl) (Zc h QdJ ?_))
 rintro _ H33 ⟨r32, rfl, h⟩
 obtain ⟨hle31, h⟩ := h
 refine GA.back hle31 (Zp 12 rfl Ya (Zp 13 rfl Ya (GA.done (by kernel_rfl) (GL.nil (Zo (Za (GL.nil (Zo (Za (Za (GL.nil (GC.seq (GC.block (Yp h (fun x34 => [(5, slv x34.1), (6, .int .i64 x34.2.1), (7, .int .i64 x34.2.2), (3, slv r29), (4, slv r32)]) ?_))))))))))))))
 intro x34 H36 J35 h
 refine GC.seq (Zo (Zm (Zm (Zq (Zi (.bool (decide ((x34.2.1 : Int) < (Sl.len r29 : Int)))) (Zm (GL.cut0 5 [(41, .bool ((decide ((x34.2.1 : Int) < (Sl.len r29 : Int))) || (decide ((x34.2.2 : Int) < (Sl.len r32 : Int))))), (3, slv r29), (4, slv r32), (5, slv x34.1), (6, .int .i64 x34.2.1), (7, .int .i64 x34.2.2)] ?_ ?_)))))))
 rcases Zb (decide ((x34.2.1 : Int) < (Sl.len r29 : Int))) with u37 | u37
 refine Zk u37 (Zk u37 (Zk u37 (Zk u37 (Zt u37 ?_))))
 exact GL.jump0 (fun _ _ h => h) () rfl ⟨(by rw [u37]; rfl), rfl, rfl, rfl, rfl, rfl, trivial⟩
 refine Zu u37 Ym (Zu u37 Ym (Zu u37 (OV.lenSl rfl rfl) (Zu u37 (OV.ibin (v := .bool (decide ((x34.2.2 : Int) < (Sl.len r32 : Int)))) rfl rfl rfl) (Zn u37 ?_))))
 exact GL.jump0 (fun _ _ h => h) () rfl ⟨(by rw [u37]; rfl), rfl, rfl, rfl, rfl, rfl, trivial⟩
 refine GL.nil (Yd h (fun u38 h => ?_) fun u38 h => ?_)
 refine GC.skip (GC.block (Zo (Za (GL.nil ?_))))
 obtain ⟨J39, h, hR42⟩ := h
 refine GC.join (α := Int) J39 (fun x40 => [(8, .int .i64 x40), (3, slv r29), (4, slv r32), (5, slv x34.1), (6, .int .i64 x34.2.1), (7, .int .i64 x34.2.2)]) ?_ ?_
 refine Zo (Zm (Zm (Zq (Zi (.bool ((x34.2.1 : Int) == (Sl.len r29 : Int))) (GL.nil (Yd h (fun u43 h => ?_) fun u43 h => ?_))))))
 refine GC.region (Za ?_)
 exact Yj I3 1 h
 refine Zo (Zm (Zm (Zq (Zi (.bool (decide ((x34.2.2 : Int) < (Sl.len r32 : Int)))) (GL.nil (Yd h (fun u44 h => ?_) fun u44 h => ?_))))))
 obtain ⟨Hs45, hle46, h⟩ := h
 refine GC.any (Hs := Hs45) (by kernel_rfl) hle46 (Zp 0 rfl Ym (Zp 1 rfl Ym ?_))
 obtain ⟨p47, ha48, hb49, u50, hd51, h⟩ := h
 refine Zp 2 rfl (OV.indexAddr rfl rfl rfl rfl ha48 hb49 u50 hd51) ?_
 obtain ⟨x52, v53, h⟩ := h
 refine Zp 3 rfl (Yo v53) (Zp 4 rfl Ym (Zp 5 rfl Ym ?_))
 obtain ⟨p54, ha55, hb56, u57, hd58, h⟩ := h
 refine Zp 6 rfl (OV.indexAddr rfl rfl rfl rfl ha55 hb56 u57 hd58) ?_
 obtain ⟨x59, v60, h⟩ := h
 refine Zp 7 rfl (Yo v60) (GA.eff 8 rfl (by kernel_rfl) (Zc h QgP ?_))
 rintro _ H63 ⟨r62, rfl, h⟩
 obtain ⟨hle61, h⟩ := h
 refine GA.back hle61 (Zp 9 rfl Ya (GA.done (by kernel_rfl) ?_))
 exact Yj I3 r62 h
 exact Yk I3 (-1) h
 intro x40 H41 h
 replace h := hR42 x40 H41 h
 obtain ⟨J64, h, hR67⟩ := h
 refine GC.join (α := Sl × Int) J64 (fun x65 => [(5, slv x65.1), (6, .int .i64 x65.2), (3, slv r29), (4, slv r32), (7, .int .i64 x34.2.2), (8, .int .i64 x40)]) ?_ ?_
 refine Zo (Zm (Zi (.bool (decide ((x40 : Int) ≤ 0))) (GL.nil (Yd h (fun u68 h => ?_) fun u68 h => ?_))))
 refine Zo (Zm (Zm (Zm (Yx h fun p69 h => ?_))))
 refine Yl h fun x74 h => ?_
 refine GL.appendLit (s := x34.1) (ys := [slv x74]) (zc := [slv Sl.nil]) (bytes := 24) h trivial rfl (fun _ => trivial) rfl (fun _ => rfl) (fun _ => rfl) (vs := [(0, slv x74)]) rfl ⟨24, fun _ => by kernel_rfl⟩ ⟨⟨_, _, _, rfl, rfl, rfl, rfl, rfl, rfl⟩⟩ rfl rfl ?_
 intro _ r76 H77 h
 refine Za (GL.nil (GC.region (Zm (Zi (.int .i64 (w .i64 (x34.2.1 + 1))) (Za ?_)))))
 exact Yj I3 (r76, (w .i64 (x34.2.1 + 1))) h
 refine GC.region (Zm (Zm (Zm (Yx h fun p78 h => ?_))))
 refine Yl h fun x83 h => ?_
 refine GL.appendLit (s := x34.1) (ys := [slv x83]) (zc := [slv Sl.nil]) (bytes := 24) h trivial rfl (fun _ => trivial) rfl (fun _ => rfl) (fun _ => rfl) (vs := [(0, slv x83)]) rfl ⟨24, fun _ => by kernel_rfl⟩ ⟨⟨_, _, _, rfl, rfl, rfl, rfl, rfl, rfl⟩⟩ rfl rfl ?_
 intro _ r85 H86 h
 refine Za ?_
 exact Yj I3 (r85, x34.2.1) h
 intro x65 H66 h
 replace h := hR67 x65 H66 h
 refine Zo (Zm (Zi (.bool (decide ((x40 : Int) ≥ 0))) (GL.nil (Yd h (fun u87 h => ?_) fun u87 h => ?_))))
 refine GC.region (Zm (Zi (.int .i64 (w .i64 (x34.2.2 + 1))) (Za ?_)))
 exact Yj I3 (x65.1, x65.2, (w .i64 (x34.2.2 + 1))) h
 exact Yk I3 (x65.1, x65.2, x34.2.2) h
 refine GC.exit_to (fun _ _ h => h) (Zo (Zm (Za (GL.nil ?_))))
 exact Y1 I3 ⟨x34.1, rfl, h⟩
def Qe2 (C : Ctx) (p_v : Qa) (K : Int → Heap → Prop) (H : Heap) : Prop :=
 nw (Qa.c p_v) (fun b1 H2 =>
 ldT H2 Qa.c (b1, 0) fun x3 =>
 QR C x3 65 (fun r5 H6 =>
 ift (decide ((r5 : Int) > 64))
 (K 65 H6)
 (ldT H6 Qa.c (b1, 0) fun x8 =>
 Qt C x8 (fun r10 r11 H12 =>
 ift (!r10)
 (K 4 H12)
 (ift (!r11)
 (K 40 H12)
 (K 0 H12))) H6)) H2) H
theorem QhW (C p_v K H) (h : Qe2 C p_v K H) : QQ C p_v K H := by
 refine Ye Tryz.func45 rfl Tryz.ntmps45 [(0, .agg (Qa.c p_v).toArray)] (Zo (GL.box (v := .agg (Qa.c p_v).toArray) (cs := Qa.c p_v) h trivial rfl rfl rfl ?_))
 intro b1 H2 h
 refine Za (GL.nil (GC.seq (Zo ?_)))
 obtain ⟨x3, v4, h⟩ := h
 refine Zv (OV.loadT rfl rfl rfl v4) (Zc h QeP ?_)
 rintro _ H6 ⟨r5, rfl, h⟩
 refine Zi (.bool (decide ((r5 : Int) > 64))) (GL.nil (Yd h (fun u7 h => ?_) fun u7 h => ?_))
 refine Zo (Za (GL.nil ?_))
 exact Y1 I3 ⟨65, rfl, h⟩
 refine GC.skip (GC.seq (Zo ?_))
 obtain ⟨x8, v9, h⟩ := h
 refine Zv (OV.loadT rfl rfl rfl v9) (Zc h QcD ?_)
 rintro _ H12 ⟨r10, r11, rfl, h⟩
 refine Zm (Yv (.bool r10) rfl rfl (Yv (.bool r11) rfl rfl (Za (Za (GL.nil (GC.block (Zo (Zm (Zv (OV.not rfl) (Za (GL.nil (Yd h (fun u13 h => ?_) fun u13 h => ?_))))))))))))
 refine Zo (Za (GL.nil ?_))
 exact Y1 I3 ⟨4, rfl, h⟩
 refine Zo (Zm (Zv (OV.not rfl) (Za (GL.nil (Yd h (fun u14 h => ?_) fun u14 h => ?_)))))
 refine Zo (Za (GL.nil ?_))
 exact Y1 I3 ⟨40, rfl, h⟩
 refine GC.skip_to (fun _ _ h => h) (Zo (Za (GL.nil ?_)))
 exact Y1 I3 ⟨0, rfl, h⟩
def QfV (C : Ctx) (p_b : Sl) (p_v : Qa) (K : Sl → Heap → Prop) (H : Heap) : Prop :=
 nw (Qa.c p_v) (fun b1 H2 =>
 Qdy C p_b (fun r3 H4 =>
 jn (α := Unit) (fun x6 H7 =>
 nck r3 fun p17 =>
 ldL H7 (p17.1, p17.2 + 0) fun x19 =>
 K x19 H7)
 (fun J5 => ldT H4 Qa.c (b1, 0) fun x9 =>
 QQ C x9 (fun r11 H12 =>
 ift ((r11 : Int) == 0)
 (ldT H12 Qa.c (b1, 0) fun x14 =>
 Qa3 C r3 x14 (fun H16 =>
 J5 () H16) H12)
 (J5 () H12)) H4)) H2) H
theorem Qit (C p_b p_v K H) (h : QfV C p_b p_v K H) : Qec C p_b p_v K H := by
 refine Ye Tryz.func46 rfl Tryz.ntmps46 [(0, slv p_b), (1, .agg (Qa.c p_v).toArray)] (Zo (GL.box (v := .agg (Qa.c p_v).toArray) (cs := Qa.c p_v) h trivial rfl rfl rfl ?_))
 intro b1 H2 h
 refine Za (GL.nil (Zo (Zm (Zc h Qh0 ?_))))
 rintro _ H4 ⟨r3, rfl, h⟩
 refine Za (GL.nil ?_)
 obtain ⟨J5, h, hR8⟩ := h
 refine GC.join (α := Unit) J5 (fun _ => [(5, pv r3)]) ?_ ?_
 refine Zo ?_
 obtain ⟨x9, v10, h⟩ := h
 refine Zv (OV.loadT rfl rfl rfl v10) (Zc h Qc9 ?_)
 rintro _ H12 ⟨r11, rfl, h⟩
 refine Zi (.bool ((r11 : Int) == 0)) (GL.nil (Yd h (fun u13 h => ?_) fun u13 h => ?_))
 refine GC.region (Zm ?_)
 obtain ⟨x14, v15, h⟩ := h
 refine Zv (OV.loadT rfl rfl rfl v15) (Zc h Qdg ?_)
 rintro _ H16 ⟨rfl, h⟩
 exact Yj I3 () h
 exact Yk I3 () h
 intro x6 H7 h
 replace h := hR8 x6 H7 h
 refine Zo (Zm ?_)
 obtain ⟨p17, hp18, h⟩ := h
 refine Zv (OV.nilCheck (q := r3) rfl hp18) (Zf (Yl h fun x19 h => ?_))
 refine Za (GL.nil ?_)
 exact Y1 I3 ⟨x19, rfl, h⟩
def Qgz (C : Ctx) (p_v : Qa) (K : Qa → Heap → Prop) (H : Heap) : Prop :=
 nw (Qa.c p_v) (fun b1 H2 =>
 nw (Qa.c Qa.zero) (fun b3 H4 =>
 ldL H4 ((b1, 0).1, (b1, 0).2 + 3) fun x5 =>
 QZ C x5 (fun r7 H8 =>
 st ((b1, 0).1, (b1, 0).2 + 3) (slv r7) (fun H9 =>
 ldT H9 Qa.c (b1, 0) fun x10 =>
 stT (b3, 0) (Qa.c x10) (fun H12 =>
 ldT H12 Qa.c (b3, 0) fun x13 =>
 K x13 H12) H9) H8) H4) H2) H
theorem Qjg (C p_v K H) (h : Qgz C p_v K H) : Qa9 C p_v K H := by
 refine Ye Tryz.func47 rfl Tryz.ntmps47 [(0, .agg (Qa.c p_v).toArray)] (Zo (GL.box (v := .agg (Qa.c p_v).toArray) (cs := Qa.c p_v) h trivial rfl rfl rfl ?_))
 intro b1 H2 h
 refine GL.alloc (cs := Qa.c Qa.zero) h trivial rfl rfl rfl ?_
 intro b3 H4 h
 refine GL.nil (Zo (Zf (Yl h fun x5 h => ?_)))
 refine Zc h Qc4 ?_
 rintro _ H8 ⟨r7, rfl, h⟩
 refine Zf (GL.store (p := ((b1, 0).1, (b1, 0).2 + 3)) (v := slv r7) h trivial rfl rfl rfl rfl ?_)
 intro H9 h
 refine GL.nil (Zo ?_)
 obtain ⟨x10, v11, h⟩ := h
 refine Zv (OV.loadT rfl rfl rfl v11) (GL.storeT (p := (b3, 0)) (vs := Qa.c x10) h trivial rfl rfl rfl rfl ?_)
 intro H12 h
 refine GL.nil ?_
 obtain ⟨x13, v14, h⟩ := h
 exact GC.ret (fun _ _ hf hs => Qlr rfl (RV.cellT (p := (b3, 0)) (cs := Qa.c x13) rfl rfl rfl v14) hf hs ⟨x13, rfl, h⟩)
def Qbv (C : Ctx) (p_b : Option (Nat × Nat)) (p_n : Int) (K : Heap → Prop) (H : Heap) : Prop :=
 Qy C p_b (fun H1 =>
 ift (decide ((p_n : Int) < 0))
 (False)
 (nck p_b fun p3 =>
 ldL H1 (p3.1, p3.2 + 1) fun x5 =>
 nck p_b fun p7 =>
 ldL H1 (p7.1, p7.2 + 1) fun x9 =>
 ift (decide (((w .i64 ((Sl.cap x5 : Int) - (Sl.len x9 : Int))) : Int) < p_n))
 (Qu C p_b p_n (fun H12 =>
 K H12) H1)
 (K H1))) H
theorem Qdu (C p_b p_n K H) (h : Qbv C p_b p_n K H) : Qo C p_b p_n K H := by
 refine Ye Tryz.func49 rfl Tryz.ntmps49 [(0, pv p_b), (1, .int .i64 p_n)] (Zo (Zm (Zc h QaA ?_)))
 rintro _ H1 ⟨rfl, h⟩
 refine GL.nil (GC.seq (Zo (Zm (Zi (.bool (decide ((p_n : Int) < 0))) (GL.nil (Yd h (fun u2 h => ?_) fun u2 h => ?_))))))
 exact GC.never h
 refine GC.skip (GC.seq (GC.draw (by kernel_rfl) (by kernel_rfl) (GQ.val trivial rfl (OV.move (v := pv p_b) rfl) ?_)))
 obtain ⟨p3, hp4, h⟩ := h
 refine GQ.val trivial rfl (OV.nilCheck (q := p_b) rfl hp4) (GQ.val trivial rfl (OV.fieldAddr (p := p3) rfl rfl) ?_)
 obtain ⟨x5, v6, h⟩ := h
 refine GQ.val trivial rfl (OV.load (p := (p3.1, p3.2 + 1)) rfl rfl v6) (GQ.val trivial rfl (OV.cap (s := x5) rfl rfl rfl) (GQ.val trivial rfl (OV.move (v := pv p_b) rfl) ?_))
 obtain ⟨p7, hp8, h⟩ := h
 refine GQ.val trivial rfl (OV.nilCheck (q := p_b) rfl hp8) (GQ.val trivial rfl (OV.fieldAddr (p := p7) rfl rfl) ?_)
 obtain ⟨x9, v10, h⟩ := h
 refine GQ.val trivial rfl (OV.load (p := (p7.1, p7.2 + 1)) rfl rfl v10) (GQ.val trivial rfl (OV.lenSl (s := x9) rfl rfl) (GQ.val trivial rfl (OV.ibin (v := .int .i64 (w .i64 ((Sl.cap x5 : Int) - (Sl.len x9 : Int)))) rfl rfl rfl) (GQ.val trivial rfl (OV.move (v := .int .i64 p_n) rfl) (GQ.val trivial rfl (OV.ibin (v := .bool (decide (((w .i64 ((Sl.cap x5 : Int) - (Sl.len x9 : Int))) : Int) < p_n))) rfl rfl rfl) (GQ.nil (GL.nil (Yd h (fun u11 h => ?_) fun u11 h => ?_)))))))
 refine GC.region (Zm (Zm (Zc h QdN ?_)))
 rintro _ H12 ⟨rfl, h⟩
 exact GL.ends (fun _ _ hf hs => Qv rfl hf hs ⟨rfl, h⟩)
 exact GC.ends (fun _ _ hf hs => Qv rfl hf hs ⟨rfl, h⟩)
def Qak (C : Ctx) (p_b : Option (Nat × Nat)) (p_s : Str) (K : Int → Value → Heap → Prop) (H : Heap) : Prop :=
 Qy C p_b (fun H1 =>
 nck p_b fun p2 =>
 ldL H1 (p2.1, p2.2 + 1) fun x4 =>
 apdG 5 [.int .u8 0] 1 x4 (bytesV p_s) (List.length p_s) (fun r6 H7 =>
 nck p_b fun p8 =>
 sttG (p8.1, p8.2 + 1) (slv r6) (fun H10 =>
 K (List.length p_s : Int) .nilIface H10) H7) H1) H
theorem QbJ (C p_b p_s K H) (h : Qak C p_b p_s K H) : Qe C p_b p_s K H := by
 refine Ye Tryz.func50 rfl Tryz.ntmps50 [(0, pv p_b), (1, sv p_s)] (Zo (Za (Za (GL.nil (Zo (Zm (Zc h QaA ?_)))))))
 rintro _ H1 ⟨rfl, h⟩
 refine GL.nil (Zo (Zm (Zm ?_)))
 obtain ⟨p2, hp3, h⟩ := h
 refine Zv (OV.nilCheck (q := p_b) rfl hp3) (Zf (Yl h fun x4 h => ?_))
 refine Zm (GL.appendGStr (e := 5) (s := x4) (u := p_s) (bytes := 1) h trivial rfl rfl rfl ⟨⟨_, _, rfl, rfl, rfl, rfl, rfl, rfl⟩⟩ rfl ?_)
 intro r6 H7 h
 obtain ⟨p8, hp9, h⟩ := h
 refine Zv (OV.nilCheck (q := p_b) rfl hp9) (Zf (GL.storeG (p := (p8.1, p8.2 + 1)) (v := slv r6) h trivial rfl rfl rfl rfl ?_))
 intro H10 h
 refine GL.nil (Zo (Zm (Zr (Za (Za (GL.nil ?_))))))
 exact Y2 I3 ⟨(List.length p_s : Int), .nilIface, rfl, h⟩
def Qa1 (C : Ctx) (p_b : Option (Nat × Nat)) (K : Str → Heap → Prop) (H : Heap) : Prop :=
 dr H fun Hs1 =>
 nck p_b fun p3 =>
 ldL Hs1 (p3.1, p3.2 + 1) fun x5 =>
 ((Sl.p x5 = none ∨ Sl.cap x5 ≠ 0) ∧ Sl.x x5 = none) ∧
 nck p_b fun p9 =>
 ldL Hs1 (p9.1, p9.2 + 1) fun x11 =>
 ust 5 (Sl.p x5) (Sl.len x11 : Int) (fun r14 H15 =>
 Heap.le Hs1 H15 ∧
 K r14 H15) H
theorem QcU (C p_b K H) (h : Qa1 C p_b K H) : Qj C p_b K H := by
 refine Ye Tryz.func51 rfl Tryz.ntmps51 [(0, pv p_b)] (Zo (Za (GL.nil (GC.seq ?_))))
 obtain ⟨Hs1, hle2, h⟩ := h
 refine GC.any (Hs := Hs1) (by kernel_rfl) hle2 (Zp 0 rfl Ym ?_)
 obtain ⟨p3, hp4, h⟩ := h
 refine Zp 1 rfl (OV.nilCheck (q := p_b) rfl hp4) (Zp 2 rfl Yf ?_)
 obtain ⟨x5, v6, h⟩ := h
 refine Zp 3 rfl (Yo v6) ?_
 obtain ⟨⟨h7, h8⟩, h⟩ := h
 refine Zp 4 rfl (OV.usd (s := x5) h7 h8 rfl) (Zp 5 rfl Ym ?_)
 obtain ⟨p9, hp10, h⟩ := h
 refine Zp 6 rfl (OV.nilCheck (q := p_b) rfl hp10) (Zp 7 rfl Yf ?_)
 obtain ⟨x11, v12, h⟩ := h
 refine Zp 8 rfl (Yo v12) (Zp 9 rfl (OV.lenSl rfl rfl) (GA.eff 10 rfl (by kernel_rfl) (GL.ust (e := 5) (p := (Sl.p x5)) (m := (Sl.len x11 : Int)) h trivial rfl rfl rfl rfl (by kernel_rfl) ?_)))
 intro r14 H15 h
 obtain ⟨hle13, h⟩ := h
 refine GA.back hle13 (Zp 11 rfl Ya (GA.done (by kernel_rfl) (GL.nil ?_)))
 exact Y1 I3 ⟨r14, rfl, h⟩
def Qd8 (C : Ctx) (p_a : Sl) (p_b : Sl) (K : Int → Heap → Prop) (H : Heap) : Prop :=
 QdE C p_a (fun r1 H2 =>
 QdE C p_b (fun r3 H4 =>
 ift ((!r1) || (!r3))
 (Qee C r1 r3 (fun r7 H8 =>
 K r7 H8) H4)
 (QbN C p_a p_b (fun r9 H10 =>
 K r9 H10) H4)) H2) H
theorem QgM (C p_a p_b K H) (h : Qd8 C p_a p_b K H) : Qcc C p_a p_b K H := by
 refine Ye Tryz.func53 rfl Tryz.ntmps53 [(0, slv p_a), (1, slv p_b)] (Zo (Za (GL.nil (GC.seq (Zo (Zm (Zc h Qgv ?_)))))))
 rintro _ H2 ⟨r1, rfl, h⟩
 refine Zm (Zc h Qgv ?_)
 rintro _ H4 ⟨r3, rfl, h⟩
 refine Za (Za (GL.nil (Zo (Zm (Zv (OV.not rfl) (Zm (GL.cut0 3 [(16, .bool ((!r1) || (!r3))), (0, slv p_a), (1, slv p_b), (5, .bool r1), (6, .bool r3)] ?_ ?_)))))))
 rcases Zb (!r1) with u5 | u5
 refine Zk u5 (Zk u5 (Zt u5 ?_))
 exact GL.jump0 (fun _ _ h => h) () rfl ⟨(by rw [u5]; rfl), rfl, rfl, rfl, rfl, trivial⟩
 refine Zu u5 Ym (Zu u5 (OV.not rfl) (Zn u5 ?_))
 exact GL.jump0 (fun _ _ h => h) () rfl ⟨(by rw [u5]; rfl), rfl, rfl, rfl, rfl, trivial⟩
 refine GL.nil (Yd h (fun u6 h => ?_) fun u6 h => ?_)
 refine Zo (Zm (Zm (Zc h QiY ?_)))
 rintro _ H8 ⟨r7, rfl, h⟩
 refine Za (GL.nil ?_)
 exact Y1 I3 ⟨r7, rfl, h⟩
 refine GC.skip (Zo (Zm (Zm (Zc h QfQ ?_))))
 rintro _ H10 ⟨r9, rfl, h⟩
 refine Za (GL.nil ?_)
 exact Y1 I3 ⟨r9, rfl, h⟩
def Qeq (C : Ctx) (p_s : Str) (K : Bool → Heap → Prop) (H : Heap) : Prop :=
 jn (α := Str) (fun x2 H3 =>
 jn (α := Bool) (fun b24 H36 =>
 ift b24
 (K false H36)
 (lp (α := Int) 0 H36 (fun x38 J39 H40 =>
 ift (decide ((x38 : Int) < (List.length x2 : Int)))
 (ixs x2 x38 fun c42 =>
 jn (α := Bool) (fun b45 H52 =>
 ift b45
 (K false H52)
 (J39 (w .i64 (x38 + 1)) H52))
 (fun J46 => ift (decide (((c42.toNat : Int) : Int) < 48))
 (J46 true H40)
 (ixs x2 x38 fun c49 =>
 J46 (decide (((c49.toNat : Int) : Int) > 57)) H40)))
 (K true H40))))
 (fun J25 => ift (x2 == ([] : Str))
 (J25 true H3)
 (jn (α := Bool) (fun b28 H35 =>
 J25 b28 H35)
 (fun J29 => ift (decide (((List.length x2 : Int) : Int) > 1))
 (ixs x2 0 fun c32 =>
 J29 (((c32.toNat : Int) : Int) == 48) H3)
 (J29 false H3)))))
 (fun J1 => jn (α := Bool) (fun b5 H12 =>
 ift b5
 (slS p_s 1 (List.length p_s : Int) fun t14 =>
 ixs t14 0 fun c20 =>
 ift (((c20.toNat : Int) : Int) == 48)
 (K false H12)
 (J1 t14 H12))
 (J1 p_s H12))
 (fun J6 => ift (decide (((List.length p_s : Int) : Int) > 1))
 (ixs p_s 0 fun c9 =>
 J6 (((c9.toNat : Int) : Int) == 45) H)
 (J6 false H)))
theorem Qg5 (C p_s K H) (h : Qeq C p_s K H) : QcZ C p_s K H := by
 refine Ye Tryz.func54 rfl Tryz.ntmps54 [(0, sv p_s)] (Zo (Za (GL.nil ?_)))
 obtain ⟨J1, h, hR4⟩ := h
 refine GC.join (α := Str) J1 (fun x2 => [(0, sv x2)]) ?_ ?_
 refine Zo (Zm (Zr (Zi (.bool (decide (((List.length p_s : Int) : Int) > 1))) (Zm ?_))))
 obtain ⟨J6, h, hR7⟩ := h
 refine GL.cut (α := Bool) 4 J6 (fun b5 => [(11, .bool b5), (0, sv p_s)]) ?_ ?_
 rcases h.em with ⟨u8, h⟩ | ⟨u8, h⟩
 refine Zu u8 Ym ?_
 obtain ⟨c9, ha10, hb11, h⟩ := h
 refine Zu u8 (OV.indexStr rfl rfl rfl ha10 hb11) (Zu u8 (OV.ibin (v := .bool (((c9.toNat : Int) : Int) == 45)) rfl rfl rfl) (Zt u8 ?_))
 exact Yj I3 (((c9.toNat : Int) : Int) == 45) h
 refine Zk u8 (Zk u8 (Zk u8 (Zn u8 ?_)))
 exact Yj I3 false h
 intro b5 H12 h
 replace h := hR7 b5 H12 h
 refine GL.nil (Yd h (fun u13 h => ?_) fun u13 h => ?_)
 refine Zo (Zm ?_)
 obtain ⟨h15, h16, h17, t14, h18, h⟩ := h
 refine Zv (OV.sliceStr (s := p_s) h15 h16 h17 h18 rfl rfl rfl rfl rfl rfl) (Za (GL.nil (Zo (Zm (Ys h fun c20 h => ?_)))))
 refine Zi (.bool (((c20.toNat : Int) : Int) == 48)) (GL.nil (Yd h (fun u23 h => ?_) fun u23 h => ?_))
 refine Zo (Za (GL.nil ?_))
 exact Y1 I3 ⟨false, rfl, h⟩
 exact Yk I3 t14 h
 exact Yk I3 p_s h
 intro x2 H3 h
 replace h := hR4 x2 H3 h
 refine GC.seq (Zo (Zm (Zv (OV.sbin (a := x2) (b := ([] : Str)) (v := .bool (x2 == ([] : Str))) rfl rfl rfl) (Zm ?_))))
 obtain ⟨J25, h, hR26⟩ := h
 refine GL.cut (α := Bool) 9 J25 (fun b24 => [(28, .bool b24), (0, sv x2)]) ?_ ?_
 rcases h.em with ⟨u27, h⟩ | ⟨u27, h⟩
 refine Zk u27 (Zk u27 (Zk u27 (Zk u27 (GL.skip ⟨_, rfl, .inr rfl⟩ rfl (GL.skip ⟨_, rfl, .inr rfl⟩ rfl (GL.skip ⟨_, rfl, .inr rfl⟩ rfl (Zk u27 (Zt u27 ?_))))))))
 exact Yj I3 true h
 refine Zu u27 Ym (Zu u27 (OV.lenStr rfl rfl) (Zu u27 (OV.ibin (v := .bool (decide (((List.length x2 : Int) : Int) > 1))) rfl rfl rfl) (Zu u27 Ym ?_)))
 obtain ⟨J29, h, hR30⟩ := h
 refine GL.cut (α := Bool) 4 J29 (fun b28 => [(27, .bool b28), (0, sv x2), (19, .bool (x2 == ([] : Str)))]) ?_ ?_
 rcases h.em with ⟨u31, h⟩ | ⟨u31, h⟩
 refine Zu u31 Ym ?_
 obtain ⟨c32, ha33, hb34, h⟩ := h
 refine Zu u31 (OV.indexStr rfl rfl rfl ha33 hb34) (Zu u31 (OV.ibin (v := .bool (((c32.toNat : Int) : Int) == 48)) rfl rfl rfl) (Zu u27 (OV.pickT rfl u31 rfl) ?_))
 exact Yj I3 (((c32.toNat : Int) : Int) == 48) h
 refine Zk u31 (Zk u31 (Zk u31 (Zu u27 (OV.pickF rfl u31 rfl) ?_)))
 exact Yj I3 false h
 intro b28 H35 h
 replace h := hR30 b28 H35 h
 refine Zn u27 ?_
 exact Yj I3 b28 h
 intro b24 H36 h
 replace h := hR26 b24 H36 h
 refine GL.nil (Yd h (fun u37 h => ?_) fun u37 h => ?_)
 refine Zo (Za (GL.nil ?_))
 exact Y1 I3 ⟨false, rfl, h⟩
 refine GC.skip (GC.seq (Zo (Za (GL.nil (GC.block (Yp h (fun x38 => [(3, .int .i64 x38), (0, sv x2)]) ?_))))))
 intro x38 H40 J39 h
 refine GC.seq (Zo (Zm (Zm (Zr (Zi (.bool (decide ((x38 : Int) < (List.length x2 : Int)))) (GL.nil (Yd h (fun u41 h => ?_) fun u41 h => ?_)))))))
 refine GC.skip (GC.seq (GC.block (Zo (Zm (Zm (Ys h fun c42 h => ?_))))))
 refine Zi (.bool (decide (((c42.toNat : Int) : Int) < 48))) (Zm ?_)
 obtain ⟨J46, h, hR47⟩ := h
 refine GL.cut (α := Bool) 5 J46 (fun b45 => [(44, .bool b45), (0, sv x2), (3, .int .i64 x38)]) ?_ ?_
 rcases h.em with ⟨u48, h⟩ | ⟨u48, h⟩
 refine Zk u48 (Zk u48 (Zk u48 (Zk u48 (Zt u48 ?_))))
 exact Yj I3 true h
 refine Zu u48 Ym (Zu u48 Ym ?_)
 obtain ⟨c49, ha50, hb51, h⟩ := h
 refine Zu u48 (OV.indexStr rfl rfl rfl ha50 hb51) (Zu u48 (OV.ibin (v := .bool (decide (((c49.toNat : Int) : Int) > 57))) rfl rfl rfl) (Zn u48 ?_))
 exact Yj I3 (decide (((c49.toNat : Int) : Int) > 57)) h
 intro b45 H52 h
 replace h := hR47 b45 H52 h
 refine GL.nil (Yd h (fun u53 h => ?_) fun u53 h => ?_)
 refine Zo (Za (GL.nil ?_))
 exact Y1 I3 ⟨false, rfl, h⟩
 refine GC.skip_to (fun _ _ h => h) (GC.region (Zm (Zi (.int .i64 (w .i64 (x38 + 1))) (Za ?_))))
 exact Yj I3 (w .i64 (x38 + 1)) h
 refine GC.exit_to (fun _ _ h => h) (Zo (Za (GL.nil ?_)))
 exact Y1 I3 ⟨true, rfl, h⟩
def QeZ (C : Ctx) (p_s : Str) (K : Bool → Heap → Prop) (H : Heap) : Prop :=
 ift ((p_s == ([116, 114, 117, 101] : Str)) || (p_s == ([102, 97, 108, 115, 101] : Str)))
 (K false H)
 (lp (α := Int) 0 H (fun x3 J4 H5 =>
 ift (decide ((x3 : Int) < (List.length p_s : Int)))
 (ixs p_s x3 fun c7 =>
 ift (((c7.toNat : Int) : Int) == 46)
 (slS p_s 0 x3 fun t11 =>
 QbL C t11 (fun r17 H18 =>
 jn (α := Bool) (fun b19 H31 =>
 K b19 H31)
 (fun J20 => ift r17
 (slS p_s (w .i64 (x3 + 1)) (List.length p_s : Int) fun t23 =>
 QbL C t23 (fun r29 H30 =>
 J20 r29 H30) H18)
 (J20 false H18))) H5)
 (J4 (w .i64 (x3 + 1)) H5))
 (QbL C p_s (fun r32 H33 =>
 K r32 H33) H5)))
theorem QhT (C p_s K H) (h : QeZ C p_s K H) : QdB C p_s K H := by
 refine Ye Tryz.func55 rfl Tryz.ntmps55 [(0, sv p_s)] (Zo (Za (GL.nil (GC.seq (Zo (Zm (Zv (OV.sbin (a := p_s) (b := ([116, 114, 117, 101] : Str)) (v := .bool (p_s == ([116, 114, 117, 101] : Str))) rfl rfl rfl) (Zm (GL.cut0 3 [(9, .bool ((p_s == ([116, 114, 117, 101] : Str)) || (p_s == ([102, 97, 108, 115, 101] : Str)))), (0, sv p_s)] ?_ ?_)))))))))
 rcases Zb (p_s == ([116, 114, 117, 101] : Str)) with u1 | u1
 refine Zk u1 (Zk u1 (Zt u1 ?_))
 exact GL.jump0 (fun _ _ h => h) () rfl ⟨(by rw [u1]; rfl), rfl, trivial⟩
 refine Zu u1 Ym (Zu u1 (OV.sbin (a := p_s) (b := ([102, 97, 108, 115, 101] : Str)) (v := .bool (p_s == ([102, 97, 108, 115, 101] : Str))) rfl rfl rfl) (Zn u1 ?_))
 exact GL.jump0 (fun _ _ h => h) () rfl ⟨(by rw [u1]; rfl), rfl, trivial⟩
 refine GL.nil (Yd h (fun u2 h => ?_) fun u2 h => ?_)
 refine Zo (Za (GL.nil ?_))
 exact Y1 I3 ⟨false, rfl, h⟩
 refine GC.skip (GC.seq (Zo (Za (GL.nil (GC.block (Yp h (fun x3 => [(3, .int .i64 x3), (0, sv p_s)]) ?_))))))
 intro x3 H5 J4 h
 refine GC.seq (Zo (Zm (Zm (Zr (Zi (.bool (decide ((x3 : Int) < (List.length p_s : Int)))) (GL.nil (Yd h (fun u6 h => ?_) fun u6 h => ?_)))))))
 refine GC.skip (GC.seq (GC.block (Zo (Zm (Zm (Ys h fun c7 h => ?_))))))
 refine Zi (.bool (((c7.toNat : Int) : Int) == 46)) (GL.nil (Yd h (fun u10 h => ?_) fun u10 h => ?_))
 refine Zo (Zm (Zm ?_))
 obtain ⟨h12, h13, h14, t11, h15, h⟩ := h
 refine Zv (OV.sliceStr (s := p_s) h12 h13 h14 h15 rfl rfl rfl rfl rfl rfl) (Zc h QdI ?_)
 rintro _ H18 ⟨r17, rfl, h⟩
 refine Zm ?_
 obtain ⟨J20, h, hR21⟩ := h
 refine GL.cut (α := Bool) 6 J20 (fun b19 => [(30, .bool b19)]) ?_ ?_
 rcases h.em with ⟨u22, h⟩ | ⟨u22, h⟩
 refine Zu u22 Ym (Zu u22 Ym (Zu u22 (OV.ibin (v := .int .i64 (w .i64 (x3 + 1))) rfl rfl rfl) ?_))
 obtain ⟨h24, h25, h26, t23, h27, h⟩ := h
 refine Zu u22 (OV.sliceStr (s := p_s) h24 h25 h26 h27 rfl rfl rfl rfl rfl rfl) (GL.call h (Yt u22) rfl QdI (vs := [sv t23]) rfl ?_)
 rintro _ H30 ⟨r29, rfl, h⟩
 refine Zt u22 ?_
 exact Yj I3 r29 h
 refine Zk u22 (Zk u22 (Zk u22 (Zk u22 (Zk u22 (Zn u22 ?_)))))
 exact Yj I3 false h
 intro b19 H31 h
 replace h := hR21 b19 H31 h
 refine Za (GL.nil ?_)
 exact Y1 I3 ⟨b19, rfl, h⟩
 refine GC.skip_to (fun _ _ h => h) (GC.region (Zm (Zi (.int .i64 (w .i64 (x3 + 1))) (Za ?_))))
 exact Yj I3 (w .i64 (x3 + 1)) h
 refine GC.exit_to (fun _ _ h => h) (Zo (Zm (Zc h QdI ?_)))
 rintro _ H33 ⟨r32, rfl, h⟩
 refine Za (GL.nil ?_)
 exact Y1 I3 ⟨r32, rfl, h⟩
def Qep (C : Ctx) (p_s : Str) (K : Int → Heap → Prop) (H : Heap) : Prop :=
 ixs p_s 0 fun c1 =>
 ift (((c1.toNat : Int) : Int) == 45)
 (K (w .i64 ((List.length p_s : Int) - 1)) H)
 (K (List.length p_s : Int) H)
theorem Qg4 (C p_s K H) (h : Qep C p_s K H) : QcY C p_s K H := by
 refine Ye Tryz.func56 rfl Tryz.ntmps56 [(0, sv p_s)] (Zo (Za (GL.nil (GC.seq (Zo (Zm (Ys h fun c1 h => ?_)))))))
 refine Zi (.bool (((c1.toNat : Int) : Int) == 45)) (GL.nil (Yd h (fun u4 h => ?_) fun u4 h => ?_))
 refine Zo (Zm (Zr (Zi (.int .i64 (w .i64 ((List.length p_s : Int) - 1))) (Za (GL.nil ?_)))))
 exact Y1 I3 ⟨(w .i64 ((List.length p_s : Int) - 1)), rfl, h⟩
 refine GC.skip (Zo (Zm (Zr (Za (GL.nil ?_)))))
 exact Y1 I3 ⟨(List.length p_s : Int), rfl, h⟩
def Qd6 (C : Ctx) (p_a : Sl) (p_b : Sl) (K : Int → Heap → Prop) (H : Heap) : Prop :=
 QbC C p_a (fun r1 H2 =>
 QbC C p_b (fun r3 H4 =>
 ift ((!r1) || (!r3))
 (Qed C r1 r3 (fun r7 H8 =>
 K r7 H8) H4)
 (Qbc C p_a p_b (fun r9 H10 =>
 K r9 H10) H4)) H2) H
theorem QgK (C p_a p_b K H) (h : Qd6 C p_a p_b K H) : Qcb C p_a p_b K H := by
 refine Ye Tryz.func58 rfl Tryz.ntmps58 [(0, slv p_a), (1, slv p_b)] (Zo (Za (GL.nil (Zo (Zm (Zc h QcB ?_))))))
 rintro _ H2 ⟨r1, rfl, h⟩
 refine Zm (Zc h QcB ?_)
 rintro _ H4 ⟨r3, rfl, h⟩
 refine Za (Za (GL.nil (GC.seq (Zo (Zm (Zv (OV.not rfl) (Zm (GL.cut0 3 [(16, .bool ((!r1) || (!r3))), (0, slv p_a), (1, slv p_b), (5, .bool r1), (6, .bool r3)] ?_ ?_))))))))
 rcases Zb (!r1) with u5 | u5
 refine Zk u5 (Zk u5 (Zt u5 ?_))
 exact GL.jump0 (fun _ _ h => h) () rfl ⟨(by rw [u5]; rfl), rfl, rfl, rfl, rfl, trivial⟩
 refine Zu u5 Ym (Zu u5 (OV.not rfl) (Zn u5 ?_))
 exact GL.jump0 (fun _ _ h => h) () rfl ⟨(by rw [u5]; rfl), rfl, rfl, rfl, rfl, trivial⟩
 refine GL.nil (Yd h (fun u6 h => ?_) fun u6 h => ?_)
 refine Zo (Zm (Zm (Zc h QiX ?_)))
 rintro _ H8 ⟨r7, rfl, h⟩
 refine Za (GL.nil ?_)
 exact Y1 I3 ⟨r7, rfl, h⟩
 refine GC.skip (Zo (Zm (Zm (Zc h QdK ?_))))
 rintro _ H10 ⟨r9, rfl, h⟩
 refine Za (GL.nil ?_)
 exact Y1 I3 ⟨r9, rfl, h⟩
def Qe3 (C : Ctx) (p_v : Qa) (p_most : Int) (K : Int → Heap → Prop) (H : Heap) : Prop :=
 nw (Qa.c p_v) (fun b1 H2 =>
 jn (α := Int) (fun x4 H5 =>
 K (w .i64 (x4 + 1)) H5)
 (fun J3 => ldL H2 ((b1, 0).1, (b1, 0).2 + 3) fun x7 =>
 lp (α := Int × Int) (0, 0) H2 (fun x9 J10 H11 =>
 ift (decide ((x9.2 : Int) < (Sl.len x7 : Int)))
 (ixa x7 x9.2 fun p13 =>
 ldT H11 Qa.c (p13.1, p13.2 + (x9.2 : Int).toNat * 4) fun x18 =>
 nw (Qa.c Qa.zero) (fun b20 H21 =>
 stT (b20, 0) (Qa.c x18) (fun H22 =>
 ift (decide ((x9.1 : Int) ≥ p_most))
 (J3 x9.1 H22)
 (ldT H22 Qa.c (b20, 0) fun x24 =>
 QR C x24 (w .i64 (p_most - 1)) (fun r26 H27 =>
 J10 ((if r26 > x9.1 then r26 else x9.1 : Int), (w .i64 (x9.2 + 1))) H27) H22)) H21) H11)
 (J3 x9.1 H11)))) H
theorem QhX (C p_v p_most K H) (h : Qe3 C p_v p_most K H) : QR C p_v p_most K H := by
 refine Ye Tryz.func59 rfl Tryz.ntmps59 [(0, .agg (Qa.c p_v).toArray), (1, .int .i64 p_most)] (Zo (GL.box (v := .agg (Qa.c p_v).toArray) (cs := Qa.c p_v) h trivial rfl rfl rfl ?_))
 intro b1 H2 h
 refine Za (GL.nil (Zo (Za (GL.nil ?_))))
 obtain ⟨J3, h, hR6⟩ := h
 refine GC.join (α := Int) J3 (fun x4 => [(5, .int .i64 x4)]) ?_ ?_
 refine Zo (Zf (Yl h fun x7 h => ?_))
 refine Zq (Zm (GL.nil (GC.block (Yp h (fun x9 => [(5, .int .i64 x9.1), (11, .int .i64 x9.2), (1, .int .i64 p_most), (9, slv x7), (10, .int .i64 (Sl.len x7 : Int))]) ?_))))
 intro x9 H11 J10 h
 refine Zo (Zi (.bool (decide ((x9.2 : Int) < (Sl.len x7 : Int)))) (GL.nil (GC.seq (Yd h (fun u12 h => ?_) fun u12 h => ?_))))
 refine GC.skip (GC.seq (GC.block (Zo (Yx h fun p13 h => ?_))))
 obtain ⟨x18, v19, h⟩ := h
 refine Zv (OV.loadT rfl rfl rfl v19) (GL.alloc (cs := Qa.c Qa.zero) h trivial rfl rfl rfl ?_)
 intro b20 H21 h
 refine GL.storeT (p := (b20, 0)) (vs := Qa.c x18) h trivial rfl rfl rfl rfl ?_
 intro H22 h
 refine GL.nil (GC.seq (Zo (Zm (Zm (Zi (.bool (decide ((x9.1 : Int) ≥ p_most))) (GL.nil (Yd h (fun u23 h => ?_) fun u23 h => ?_)))))))
 exact GC.exit_jump (fun _ _ h => h) x9.1 h ⟨rfl, trivial⟩
 refine GC.skip (GC.region (Zm ?_))
 obtain ⟨x24, v25, h⟩ := h
 refine Zv (OV.loadT rfl rfl rfl v25) (Zm (Zi (.int .i64 (w .i64 (p_most - 1))) (Zc h QeP ?_)))
 rintro _ H27 ⟨r26, rfl, h⟩
 refine Zv (OV.maxI rfl rfl) (Za (GL.nil_to (fun _ _ h => h) (GC.region (Zi (.int .i64 (w .i64 (x9.2 + 1))) (Zm ?_)))))
 exact Yj I3 ((if r26 > x9.1 then r26 else x9.1 : Int), (w .i64 (x9.2 + 1))) h
 exact GC.exit_jump (fun _ _ h => h) x9.1 h ⟨rfl, trivial⟩
 intro x4 H5 h
 replace h := hR6 x4 H5 h
 refine Zo (Zm (Zi (.int .i64 (w .i64 (x4 + 1))) (Za (GL.nil ?_))))
 exact Y1 I3 ⟨(w .i64 (x4 + 1)), rfl, h⟩
def QcR (C : Ctx) (p_v : Qa) (K : Bool → Bool → Heap → Prop) (H : Heap) : Prop :=
 nw (Qa.c p_v) (fun b1 H2 =>
 ldI H2 .i64 ((b1, 0).1, (b1, 0).2 + 1) fun x3 =>
 jn (α := Bool) (fun b5 H11 =>
 jn (α := Bool) (fun b12 H18 =>
 jn (α := Bool × Bool) (fun x20 H21 =>
 ldL H21 ((b1, 0).1, (b1, 0).2 + 3) fun x149 =>
 lp (α := Bool × Bool × Int) (x20.1, x20.2, 0) H21 (fun x151 J152 H153 =>
 ift (decide ((x151.2.2 : Int) < (Sl.len x149 : Int)))
 (ixa x149 x151.2.2 fun p155 =>
 ldT H153 Qa.c (p155.1, p155.2 + (x151.2.2 : Int).toNat * 4) fun x160 =>
 nw (Qa.c Qa.zero) (fun b162 H163 =>
 stT (b162, 0) (Qa.c x160) (fun H164 =>
 ldT H164 Qa.c (b162, 0) fun x165 =>
 Qt C x165 (fun r167 r168 H169 =>
 J152 ((x151.1 && r167), (x151.2.1 && r168), (w .i64 (x151.2.2 + 1))) H169) H164) H163) H153)
 (K x151.1 x151.2.1 H153)))
 (fun J19 => ldI H18 .u8 ((b1, 0).1, (b1, 0).2 + 0) fun x23 =>
 ift ((x23 : Int) == 1)
 (ldI H18 .i64 ((b1, 0).1, (b1, 0).2 + 1) fun x26 =>
 jn (α := Bool) (fun b28 H34 =>
 jn (α := Bool) (fun b35 H41 =>
 jn (α := Bool) (fun b42 H48 =>
 J19 (b42, true) H48)
 (fun J43 => ift b35
 (ldL H41 ((b1, 0).1, (b1, 0).2 + 3) fun x46 =>
 J43 (((Sl.len x46 : Int) : Int) == 0) H41)
 (J43 false H41)))
 (fun J36 => ift b28
 (ldS H34 ((b1, 0).1, (b1, 0).2 + 2) fun x39 =>
 J36 (x39 == ([] : Str)) H34)
 (J36 false H34)))
 (fun J29 => ift ((x26 : Int) == 0)
 (J29 true H18)
 (ldI H18 .i64 ((b1, 0).1, (b1, 0).2 + 1) fun x32 =>
 J29 ((x32 : Int) == 1) H18)))
 (ift ((x23 : Int) == 2)
 (ldS H18 ((b1, 0).1, (b1, 0).2 + 2) fun x50 =>
 jn (α := Bool) (fun b52 H58 =>
 J19 (b52, true) H58)
 (fun J53 => ift (x50 == ([] : Str))
 (ldL H18 ((b1, 0).1, (b1, 0).2 + 3) fun x56 =>
 J53 (((Sl.len x56 : Int) : Int) == 0) H18)
 (J53 false H18)))
 (ift ((x23 : Int) == 3)
 (ldS H18 ((b1, 0).1, (b1, 0).2 + 2) fun x60 =>
 Qc2 C x60 (fun r62 r63 H64 =>
 jn (α := Bool) (fun b65 H71 =>
 jn (α := Bool) (fun b72 H78 =>
 J19 (b72, (decide ((r62 : Int) ≤ 200))) H78)
 (fun J73 => ift b65
 (ldL H71 ((b1, 0).1, (b1, 0).2 + 3) fun x76 =>
 J73 (((Sl.len x76 : Int) : Int) == 0) H71)
 (J73 false H71)))
 (fun J66 => ift r63
 (ldI H64 .i64 ((b1, 0).1, (b1, 0).2 + 1) fun x69 =>
 J66 ((x69 : Int) == 0) H64)
 (J66 false H64))) H18)
 (ift ((x23 : Int) == 4)
 (jn (α := Bool × Bool) (fun x81 H82 =>
 J19 (x81.1, x81.2) H82)
 (fun J80 => dr H18 fun Hs84 =>
 ldI Hs84 .i64 ((b1, 0).1, (b1, 0).2 + 1) fun x86 =>
 ldS Hs84 ((b1, 0).1, (b1, 0).2 + 2) fun x88 =>
 ift ((x86 : Int) == 0)
 (ldL Hs84 ((b1, 0).1, (b1, 0).2 + 3) fun x91 =>
 J80 ((((Sl.len x91 : Int) : Int) == 0), (decide (((List.length x88 : Int) : Int) ≤ 4096))) H18)
 (J80 (false, (decide (((List.length x88 : Int) : Int) ≤ 4096))) H18)))
 (ift ((x23 : Int) == 5)
 (jn (α := Bool × Bool) (fun x95 H96 =>
 J19 (x95.1, x95.2) H96)
 (fun J94 => dr H18 fun Hs98 =>
 ldI Hs98 .i64 ((b1, 0).1, (b1, 0).2 + 1) fun x100 =>
 ldL Hs98 ((b1, 0).1, (b1, 0).2 + 3) fun x102 =>
 ift ((x100 : Int) == 0)
 (ldS Hs98 ((b1, 0).1, (b1, 0).2 + 2) fun x105 =>
 ift (x105 == ([] : Str))
 (ldL Hs98 ((b1, 0).1, (b1, 0).2 + 3) fun x108 =>
 J94 ((((Sl.len x108 : Int) : Int) != 1), (decide (((Sl.len x102 : Int) : Int) ≤ 16))) H18)
 (J94 (false, (decide (((Sl.len x102 : Int) : Int) ≤ 16))) H18))
 (J94 (false, (decide (((Sl.len x102 : Int) : Int) ≤ 16))) H18)))
 (ift ((x23 : Int) == 6)
 (ldS H18 ((b1, 0).1, (b1, 0).2 + 2) fun x111 =>
 QdC C x111 [46] (fun r113 r114 r115 H116 =>
 jn (α := Bool × Bool) (fun x118 H119 =>
 J19 (x118.1, x118.2) H119)
 (fun J117 => dr H116 fun Hs121 =>
 ldI Hs121 .i64 ((b1, 0).1, (b1, 0).2 + 1) fun x123 =>
 ldL Hs121 ((b1, 0).1, (b1, 0).2 + 3) fun x125 =>
 ift ((x123 : Int) == 0)
 (Qbd C r113 (fun r129 H130 =>
 Heap.le Hs121 H130 ∧
 ift r129
 (ift r115
 (Qbd C r114 (fun r134 H135 =>
 Heap.le Hs121 H135 ∧
 ift r134
 (J117 (true, (decide (((Sl.len x125 : Int) : Int) ≤ 8))) H135)
 (ift (!r115)
 (ldS Hs121 ((b1, 0).1, (b1, 0).2 + 2) fun x138 =>
 ift (!(x138 == ([116, 114, 117, 101] : Str)))
 (ldS Hs121 ((b1, 0).1, (b1, 0).2 + 2) fun x141 =>
 J117 ((!(x141 == ([102, 97, 108, 115, 101] : Str))), (decide (((Sl.len x125 : Int) : Int) ≤ 8))) H135)
 (J117 (false, (decide (((Sl.len x125 : Int) : Int) ≤ 8))) H135))
 (J117 (false, (decide (((Sl.len x125 : Int) : Int) ≤ 8))) H135))) H130)
 (ift (!r115)
 (ldS Hs121 ((b1, 0).1, (b1, 0).2 + 2) fun x144 =>
 ift (!(x144 == ([116, 114, 117, 101] : Str)))
 (ldS Hs121 ((b1, 0).1, (b1, 0).2 + 2) fun x147 =>
 J117 ((!(x147 == ([102, 97, 108, 115, 101] : Str))), (decide (((Sl.len x125 : Int) : Int) ≤ 8))) H130)
 (J117 (false, (decide (((Sl.len x125 : Int) : Int) ≤ 8))) H130))
 (J117 (false, (decide (((Sl.len x125 : Int) : Int) ≤ 8))) H130)))
 (J117 (false, (decide (((Sl.len x125 : Int) : Int) ≤ 8))) H130)) H116)
 (J117 (false, (decide (((Sl.len x125 : Int) : Int) ≤ 8))) H116))) H18)
 (J19 (false, true) H18))))))))
 (fun J13 => ift b5
 (ldL H11 ((b1, 0).1, (b1, 0).2 + 3) fun x16 =>
 J13 (((Sl.len x16 : Int) : Int) == 0) H11)
 (J13 false H11)))
 (fun J6 => ift ((x3 : Int) == 0)
 (ldS H2 ((b1, 0).1, (b1, 0).2 + 2) fun x9 =>
 J6 (x9 == ([] : Str)) H2)
 (J6 false H2))) H
theorem Qfy (C p_v K H) (h : QcR C p_v K H) : Qt C p_v K H := by
 refine Ye Tryz.func60 rfl Tryz.ntmps60 [(0, .agg (Qa.c p_v).toArray)] (Zo (GL.box (v := .agg (Qa.c p_v).toArray) (cs := Qa.c p_v) h trivial rfl rfl rfl ?_))
 intro b1 H2 h
 refine Za (Za (GL.nil (Zo (Zf (Yl h fun x3 h => ?_)))))
 refine Zi (.bool ((x3 : Int) == 0)) (Zm ?_)
 obtain ⟨J6, h, hR7⟩ := h
 refine GL.cut (α := Bool) 4 J6 (fun b5 => [(20, .bool b5), (1, pv (some (b1, 0)))]) ?_ ?_
 rcases h.em with ⟨u8, h⟩ | ⟨u8, h⟩
 refine Zu u8 Yf ?_
 obtain ⟨x9, v10, h⟩ := h
 refine Zu u8 (Yo v10) (Zu u8 (OV.sbin (a := x9) (b := ([] : Str)) (v := .bool (x9 == ([] : Str))) rfl rfl rfl) (Zt u8 ?_))
 exact Yj I3 (x9 == ([] : Str)) h
 refine Zk u8 (Zk u8 (Zk u8 (Zn u8 ?_)))
 exact Yj I3 false h
 intro b5 H11 h
 replace h := hR7 b5 H11 h
 refine Zm ?_
 obtain ⟨J13, h, hR14⟩ := h
 refine GL.cut (α := Bool) 5 J13 (fun b12 => [(26, .bool b12), (1, pv (some (b1, 0)))]) ?_ ?_
 rcases h.em with ⟨u15, h⟩ | ⟨u15, h⟩
 refine Zu u15 Yf ?_
 obtain ⟨x16, v17, h⟩ := h
 refine Zu u15 (Yo v17) (Zu u15 (OV.lenSl rfl rfl) (Zu u15 (OV.ibin (v := .bool (((Sl.len x16 : Int) : Int) == 0)) rfl rfl rfl) (Zt u15 ?_)))
 exact Yj I3 (((Sl.len x16 : Int) : Int) == 0) h
 refine Zk u15 (Zk u15 (Zk u15 (Zk u15 (Zn u15 ?_))))
 exact Yj I3 false h
 intro b12 H18 h
 replace h := hR14 b12 H18 h
 refine Za (Za (GL.nil ?_))
 obtain ⟨J19, h, hR22⟩ := h
 refine GC.join (α := Bool × Bool) J19 (fun x20 => [(2, .bool x20.1), (3, .bool x20.2), (1, pv (some (b1, 0)))]) ?_ ?_
 refine Zo (Zf (Yl h fun x23 h => ?_))
 refine GL.nil (GC.block (Zo (Zi (.bool ((x23 : Int) == 1)) (Za (GL.nil (Yd h (fun u25 h => ?_) fun u25 h => ?_))))))
 refine GC.region (Zf (Yl h fun x26 h => ?_))
 refine Zi (.bool ((x26 : Int) == 0)) (Zm ?_)
 obtain ⟨J29, h, hR30⟩ := h
 refine GL.cut (α := Bool) 4 J29 (fun b28 => [(38, .bool b28), (1, pv (some (b1, 0))), (3, .bool true)]) ?_ ?_
 rcases h.em with ⟨u31, h⟩ | ⟨u31, h⟩
 refine Zk u31 (Zk u31 (Zk u31 (Zt u31 ?_)))
 exact Yj I3 true h
 refine Zu u31 Yf ?_
 obtain ⟨x32, v33, h⟩ := h
 refine Zu u31 (Yo v33) (Zu u31 (OV.ibin (v := .bool ((x32 : Int) == 1)) rfl rfl rfl) (Zn u31 ?_))
 exact Yj I3 ((x32 : Int) == 1) h
 intro b28 H34 h
 replace h := hR30 b28 H34 h
 refine Zm ?_
 obtain ⟨J36, h, hR37⟩ := h
 refine GL.cut (α := Bool) 4 J36 (fun b35 => [(43, .bool b35), (1, pv (some (b1, 0))), (3, .bool true)]) ?_ ?_
 rcases h.em with ⟨u38, h⟩ | ⟨u38, h⟩
 refine Zu u38 Yf ?_
 obtain ⟨x39, v40, h⟩ := h
 refine Zu u38 (Yo v40) (Zu u38 (OV.sbin (a := x39) (b := ([] : Str)) (v := .bool (x39 == ([] : Str))) rfl rfl rfl) (Zt u38 ?_))
 exact Yj I3 (x39 == ([] : Str)) h
 refine Zk u38 (Zk u38 (Zk u38 (Zn u38 ?_)))
 exact Yj I3 false h
 intro b35 H41 h
 replace h := hR37 b35 H41 h
 refine Zm ?_
 obtain ⟨J43, h, hR44⟩ := h
 refine GL.cut (α := Bool) 5 J43 (fun b42 => [(49, .bool b42), (1, pv (some (b1, 0))), (3, .bool true)]) ?_ ?_
 rcases h.em with ⟨u45, h⟩ | ⟨u45, h⟩
 refine Zu u45 Yf ?_
 obtain ⟨x46, v47, h⟩ := h
 refine Zu u45 (Yo v47) (Zu u45 (OV.lenSl rfl rfl) (Zu u45 (OV.ibin (v := .bool (((Sl.len x46 : Int) : Int) == 0)) rfl rfl rfl) (Zt u45 ?_)))
 exact Yj I3 (((Sl.len x46 : Int) : Int) == 0) h
 refine Zk u45 (Zk u45 (Zk u45 (Zk u45 (Zn u45 ?_))))
 exact Yj I3 false h
 intro b42 H48 h
 replace h := hR44 b42 H48 h
 refine Za ?_
 exact Yj I3 (b42, true) h
 refine Zo (Zi (.bool ((x23 : Int) == 2)) (Za (GL.nil (Yd h (fun u49 h => ?_) fun u49 h => ?_))))
 refine GC.region (Zf (Yl h fun x50 h => ?_))
 refine Zv (OV.sbin (a := x50) (b := ([] : Str)) (v := .bool (x50 == ([] : Str))) rfl rfl rfl) (Zm ?_)
 obtain ⟨J53, h, hR54⟩ := h
 refine GL.cut (α := Bool) 5 J53 (fun b52 => [(60, .bool b52), (1, pv (some (b1, 0))), (3, .bool true)]) ?_ ?_
 rcases h.em with ⟨u55, h⟩ | ⟨u55, h⟩
 refine Zu u55 Yf ?_
 obtain ⟨x56, v57, h⟩ := h
 refine Zu u55 (Yo v57) (Zu u55 (OV.lenSl rfl rfl) (Zu u55 (OV.ibin (v := .bool (((Sl.len x56 : Int) : Int) == 0)) rfl rfl rfl) (Zt u55 ?_)))
 exact Yj I3 (((Sl.len x56 : Int) : Int) == 0) h
 refine Zk u55 (Zk u55 (Zk u55 (Zk u55 (Zn u55 ?_))))
 exact Yj I3 false h
 intro b52 H58 h
 replace h := hR54 b52 H58 h
 refine Za ?_
 exact Yj I3 (b52, true) h
 refine Zo (Zi (.bool ((x23 : Int) == 3)) (Za (GL.nil (Yd h (fun u59 h => ?_) fun u59 h => ?_))))
 refine Zo (Zf (Yl h fun x60 h => ?_))
 refine Zc h Qhw ?_
 rintro _ H64 ⟨r62, r63, rfl, h⟩
 refine Zm (Yv (.int .i64 r62) rfl rfl (Yv (.bool r63) rfl rfl (Za (Za (GL.nil (GC.region (Zm (Zm ?_))))))))
 obtain ⟨J66, h, hR67⟩ := h
 refine GL.cut (α := Bool) 4 J66 (fun b65 => [(74, .bool b65), (1, pv (some (b1, 0))), (4, .int .i64 r62)]) ?_ ?_
 rcases h.em with ⟨u68, h⟩ | ⟨u68, h⟩
 refine Zu u68 Yf ?_
 obtain ⟨x69, v70, h⟩ := h
 refine Zu u68 (Yo v70) (Zu u68 (OV.ibin (v := .bool ((x69 : Int) == 0)) rfl rfl rfl) (Zt u68 ?_))
 exact Yj I3 ((x69 : Int) == 0) h
 refine Zk u68 (Zk u68 (Zk u68 (Zn u68 ?_)))
 exact Yj I3 false h
 intro b65 H71 h
 replace h := hR67 b65 H71 h
 refine Zm ?_
 obtain ⟨J73, h, hR74⟩ := h
 refine GL.cut (α := Bool) 5 J73 (fun b72 => [(80, .bool b72), (1, pv (some (b1, 0))), (4, .int .i64 r62)]) ?_ ?_
 rcases h.em with ⟨u75, h⟩ | ⟨u75, h⟩
 refine Zu u75 Yf ?_
 obtain ⟨x76, v77, h⟩ := h
 refine Zu u75 (Yo v77) (Zu u75 (OV.lenSl rfl rfl) (Zu u75 (OV.ibin (v := .bool (((Sl.len x76 : Int) : Int) == 0)) rfl rfl rfl) (Zt u75 ?_)))
 exact Yj I3 (((Sl.len x76 : Int) : Int) == 0) h
 refine Zk u75 (Zk u75 (Zk u75 (Zk u75 (Zn u75 ?_))))
 exact Yj I3 false h
 intro b72 H78 h
 replace h := hR74 b72 H78 h
 refine Zm (Zi (.bool (decide ((r62 : Int) ≤ 200))) (Za (Za ?_)))
 exact Yj I3 (b72, (decide ((r62 : Int) ≤ 200))) h
 refine Zo (Zi (.bool ((x23 : Int) == 4)) (Za (GL.nil (Yd h (fun u79 h => ?_) fun u79 h => ?_))))
 obtain ⟨J80, h, hR83⟩ := h
 refine GC.meet (α := Bool × Bool) J80 (fun x81 => [(2, .bool x81.1), (3, .bool x81.2), (1, pv (some (b1, 0)))]) ?_ ?_
 obtain ⟨Hs84, hle85, h⟩ := h
 refine GC.any (Hs := Hs84) (by kernel_rfl) hle85 (Zp 0 rfl Yf ?_)
 obtain ⟨x86, v87, h⟩ := h
 refine Zp 1 rfl (Yo v87) (Zp 2 rfl (OV.ibin (v := .bool ((x86 : Int) == 0)) rfl rfl rfl) (Zp 3 rfl Ym (Zp 9 rfl Yf ?_)))
 obtain ⟨x88, v89, h⟩ := h
 refine Zp 10 rfl (Yo v89) (Zp 11 rfl (OV.lenStr rfl rfl) (Zp 12 rfl (OV.ibin (v := .bool (decide (((List.length x88 : Int) : Int) ≤ 4096))) rfl rfl rfl) ?_))
 rcases h.em with ⟨u90, h⟩ | ⟨u90, h⟩
 refine Zg 4 rfl (Yt u90) Yf ?_
 obtain ⟨x91, v92, h⟩ := h
 refine Zg 5 rfl (Yt u90) (Yo v92) (Zg 6 rfl (Yt u90) (OV.lenSl rfl rfl) (Zg 7 rfl (Yt u90) (OV.ibin (v := .bool (((Sl.len x91 : Int) : Int) == 0)) rfl rfl rfl) (Zp 8 rfl (OV.pickT rfl u90 rfl) (Zp 13 rfl Ya (Zp 14 rfl Ya (GA.done (by kernel_rfl) ?_))))))
 exact Yj I3 ((((Sl.len x91 : Int) : Int) == 0), (decide (((List.length x88 : Int) : Int) ≤ 4096))) h
 refine Zj 4 rfl (Yw u90) (Zj 5 rfl (Yw u90) (Zj 6 rfl (Yw u90) (Zj 7 rfl (Yw u90) (Zp 8 rfl (OV.pickF rfl u90 rfl) (Zp 13 rfl Ya (Zp 14 rfl Ya (GA.done (by kernel_rfl) ?_)))))))
 exact Yj I3 (false, (decide (((List.length x88 : Int) : Int) ≤ 4096))) h
 intro x81 H82 h
 replace h := hR83 x81 H82 h
 exact Yj I3 (x81.1, x81.2) h
 refine Zo (Zi (.bool ((x23 : Int) == 5)) (Za (GL.nil (Yd h (fun u93 h => ?_) fun u93 h => ?_))))
 obtain ⟨J94, h, hR97⟩ := h
 refine GC.meet (α := Bool × Bool) J94 (fun x95 => [(2, .bool x95.1), (3, .bool x95.2), (1, pv (some (b1, 0)))]) ?_ ?_
 obtain ⟨Hs98, hle99, h⟩ := h
 refine GC.any (Hs := Hs98) (by kernel_rfl) hle99 (Zp 0 rfl Yf ?_)
 obtain ⟨x100, v101, h⟩ := h
 refine Zp 1 rfl (Yo v101) (Zp 2 rfl (OV.ibin (v := .bool ((x100 : Int) == 0)) rfl rfl rfl) (Zp 3 rfl Ym (Zp 14 rfl Yf ?_)))
 obtain ⟨x102, v103, h⟩ := h
 refine Zp 15 rfl (Yo v103) (Zp 16 rfl (OV.lenSl rfl rfl) (Zp 17 rfl (OV.ibin (v := .bool (decide (((Sl.len x102 : Int) : Int) ≤ 16))) rfl rfl rfl) ?_))
 rcases h.em with ⟨u104, h⟩ | ⟨u104, h⟩
 refine Zg 4 rfl (Yt u104) Yf ?_
 obtain ⟨x105, v106, h⟩ := h
 refine Zg 5 rfl (Yt u104) (Yo v106) (Zg 6 rfl (Yt u104) (OV.sbin (a := x105) (b := ([] : Str)) (v := .bool (x105 == ([] : Str))) rfl rfl rfl) (Zp 7 rfl (OV.pickT rfl u104 rfl) (Zp 8 rfl Ym ?_)))
 rcases h.em with ⟨u107, h⟩ | ⟨u107, h⟩
 refine Zg 9 rfl (Yt u107) Yf ?_
 obtain ⟨x108, v109, h⟩ := h
 refine Zg 10 rfl (Yt u107) (Yo v109) (Zg 11 rfl (Yt u107) (OV.lenSl rfl rfl) (Zg 12 rfl (Yt u107) (OV.ibin (v := .bool (((Sl.len x108 : Int) : Int) != 1)) rfl rfl rfl) (Zp 13 rfl (OV.pickT rfl u107 rfl) (Zp 18 rfl Ya (Zp 19 rfl Ya (GA.done (by kernel_rfl) ?_))))))
 exact Yj I3 ((((Sl.len x108 : Int) : Int) != 1), (decide (((Sl.len x102 : Int) : Int) ≤ 16))) h
 refine Zj 9 rfl (Yw u107) (Zj 10 rfl (Yw u107) (Zj 11 rfl (Yw u107) (Zj 12 rfl (Yw u107) (Zp 13 rfl (OV.pickF rfl u107 rfl) (Zp 18 rfl Ya (Zp 19 rfl Ya (GA.done (by kernel_rfl) ?_)))))))
 exact Yj I3 (false, (decide (((Sl.len x102 : Int) : Int) ≤ 16))) h
 refine Zj 4 rfl (Yw u104) (Zj 5 rfl (Yw u104) (Zj 6 rfl (Yw u104) (Zp 7 rfl (OV.pickF rfl u104 rfl) (Zp 8 rfl Ym (Zj 9 rfl (Yw rfl) (Zj 10 rfl (Yw rfl) (Zj 11 rfl (Yw rfl) (Zj 12 rfl (Yw rfl) (Zp 13 rfl (OV.pickF rfl rfl rfl) (Zp 18 rfl Ya (Zp 19 rfl Ya (GA.done (by kernel_rfl) ?_))))))))))))
 exact Yj I3 (false, (decide (((Sl.len x102 : Int) : Int) ≤ 16))) h
 intro x95 H96 h
 replace h := hR97 x95 H96 h
 exact Yj I3 (x95.1, x95.2) h
 refine Zo (Zi (.bool ((x23 : Int) == 6)) (Za (GL.nil (Yd h (fun u110 h => ?_) fun u110 h => ?_))))
 refine Zo (Zf (Yl h fun x111 h => ?_))
 refine Zc h Qh3 ?_
 rintro _ H116 ⟨r113, r114, r115, rfl, h⟩
 refine Zm (Yv (sv r113) rfl rfl (Yv (sv r114) rfl rfl (Yv (.bool r115) rfl rfl (Za (Za (Za (GL.nil ?_)))))))
 obtain ⟨J117, h, hR120⟩ := h
 refine GC.meet (α := Bool × Bool) J117 (fun x118 => [(2, .bool x118.1), (3, .bool x118.2), (1, pv (some (b1, 0)))]) ?_ ?_
 obtain ⟨Hs121, hle122, h⟩ := h
 refine GC.any (Hs := Hs121) (by kernel_rfl) hle122 (Zp 0 rfl Yf ?_)
 obtain ⟨x123, v124, h⟩ := h
 refine Zp 1 rfl (Yo v124) (Zp 2 rfl (OV.ibin (v := .bool ((x123 : Int) == 0)) rfl rfl rfl) (Zp 3 rfl Ym (Zp 28 rfl Yf ?_)))
 obtain ⟨x125, v126, h⟩ := h
 refine Zp 29 rfl (Yo v126) (Zp 30 rfl (OV.lenSl rfl rfl) (Zp 31 rfl (OV.ibin (v := .bool (decide (((Sl.len x125 : Int) : Int) ≤ 8))) rfl rfl rfl) ?_))
 rcases h.em with ⟨u127, h⟩ | ⟨u127, h⟩
 refine Zg 4 rfl (Yt u127) Ym (GA.eff 5 rfl (by kernel_rfl) (GL.call h (Yt u127) rfl QfP (vs := [sv r113]) rfl ?_))
 rintro _ H130 ⟨r129, rfl, h⟩
 obtain ⟨hle128, h⟩ := h
 refine GA.back hle128 (Zp 6 rfl (OV.pickT rfl u127 rfl) (Zp 7 rfl Ym ?_))
 rcases h.em with ⟨u131, h⟩ | ⟨u131, h⟩
 refine Zg 8 rfl (Yt u131) Ym (Zg 9 rfl (Yt u131) Ym ?_)
 rcases h.em with ⟨u132, h⟩ | ⟨u132, h⟩
 refine Zg 10 rfl (Yt u132) Ym (GA.eff 11 rfl (by kernel_rfl) (GL.call h (Yt u132) rfl QfP (vs := [sv r114]) rfl ?_))
 rintro _ H135 ⟨r134, rfl, h⟩
 obtain ⟨hle133, h⟩ := h
 refine GA.back hle133 (Zg 12 rfl (Yt u131) (OV.pickT rfl u132 rfl) (Zg 13 rfl (Yt u131) Ym ?_))
 rcases h.em with ⟨u136, h⟩ | ⟨u136, h⟩
 refine Zj 14 rfl (Yw u136) (Zj 15 rfl (Yw u136) (Zj 16 rfl (Yw u136) (Zj 17 rfl ⟨_, rfl, .inr rfl⟩ (Zj 18 rfl ⟨_, rfl, .inr rfl⟩ (Zj 19 rfl ⟨_, rfl, .inr rfl⟩ (Zj 20 rfl (Yw u136) (Zj 21 rfl (Yw u136) (Zj 22 rfl ⟨_, rfl, .inr rfl⟩ (Zj 23 rfl ⟨_, rfl, .inr rfl⟩ (Zj 24 rfl ⟨_, rfl, .inr rfl⟩ (Zj 25 rfl (Yw u136) (Zg 26 rfl (Yt u131) (OV.pickT rfl u136 rfl) (Zp 27 rfl (OV.pickT rfl u131 rfl) (Zp 32 rfl Ya (Zp 33 rfl Ya (GA.done (by kernel_rfl) ?_))))))))))))))))
 exact Yj I3 (true, (decide (((Sl.len x125 : Int) : Int) ≤ 8))) h
 refine Zg 14 rfl (Yt u136) Ym (Zg 15 rfl (Yt u136) (OV.not rfl) (Zg 16 rfl (Yt u136) Ym ?_))
 rcases h.em with ⟨u137, h⟩ | ⟨u137, h⟩
 refine Zg 17 rfl (Yt u137) Yf ?_
 obtain ⟨x138, v139, h⟩ := h
 refine Zg 18 rfl (Yt u137) (Yo v139) (Zg 19 rfl (Yt u137) (OV.sbin (a := x138) (b := ([116, 114, 117, 101] : Str)) (v := .bool (!(x138 == ([116, 114, 117, 101] : Str)))) rfl rfl rfl) (Zg 20 rfl (Yt u136) (OV.pickT rfl u137 rfl) (Zg 21 rfl (Yt u136) Ym ?_)))
 rcases h.em with ⟨u140, h⟩ | ⟨u140, h⟩
 refine Zg 22 rfl (Yt u140) Yf ?_
 obtain ⟨x141, v142, h⟩ := h
 refine Zg 23 rfl (Yt u140) (Yo v142) (Zg 24 rfl (Yt u140) (OV.sbin (a := x141) (b := ([102, 97, 108, 115, 101] : Str)) (v := .bool (!(x141 == ([102, 97, 108, 115, 101] : Str)))) rfl rfl rfl) (Zg 25 rfl (Yt u136) (OV.pickT rfl u140 rfl) (Zg 26 rfl (Yt u131) (OV.pickF rfl u136 rfl) (Zp 27 rfl (OV.pickT rfl u131 rfl) (Zp 32 rfl Ya (Zp 33 rfl Ya (GA.done (by kernel_rfl) ?_)))))))
 exact Yj I3 ((!(x141 == ([102, 97, 108, 115, 101] : Str))), (decide (((Sl.len x125 : Int) : Int) ≤ 8))) h
 refine Zj 22 rfl (Yw u140) (Zj 23 rfl (Yw u140) (Zj 24 rfl (Yw u140) (Zg 25 rfl (Yt u136) (OV.pickF rfl u140 rfl) (Zg 26 rfl (Yt u131) (OV.pickF rfl u136 rfl) (Zp 27 rfl (OV.pickT rfl u131 rfl) (Zp 32 rfl Ya (Zp 33 rfl Ya (GA.done (by kernel_rfl) ?_))))))))
 exact Yj I3 (false, (decide (((Sl.len x125 : Int) : Int) ≤ 8))) h
 refine Zj 17 rfl (Yw u137) (Zj 18 rfl (Yw u137) (Zj 19 rfl (Yw u137) (Zg 20 rfl (Yt u136) (OV.pickF rfl u137 rfl) (Zg 21 rfl (Yt u136) Ym (Zj 22 rfl (Yw rfl) (Zj 23 rfl (Yw rfl) (Zj 24 rfl (Yw rfl) (Zg 25 rfl (Yt u136) (OV.pickF rfl rfl rfl) (Zg 26 rfl (Yt u131) (OV.pickF rfl u136 rfl) (Zp 27 rfl (OV.pickT rfl u131 rfl) (Zp 32 rfl Ya (Zp 33 rfl Ya (GA.done (by kernel_rfl) ?_)))))))))))))
 exact Yj I3 (false, (decide (((Sl.len x125 : Int) : Int) ≤ 8))) h
 refine Zj 10 rfl (Yw u132) (Zj 11 rfl (Yw u132) (Zg 12 rfl (Yt u131) (OV.pickF rfl u132 rfl) (Zg 13 rfl (Yt u131) Ym (Zg 14 rfl (Yt rfl) Ym (Zg 15 rfl (Yt rfl) (OV.not rfl) (Zg 16 rfl (Yt rfl) Ym ?_))))))
 rcases h.em with ⟨u143, h⟩ | ⟨u143, h⟩
 refine Zg 17 rfl (Yt u143) Yf ?_
 obtain ⟨x144, v145, h⟩ := h
 refine Zg 18 rfl (Yt u143) (Yo v145) (Zg 19 rfl (Yt u143) (OV.sbin (a := x144) (b := ([116, 114, 117, 101] : Str)) (v := .bool (!(x144 == ([116, 114, 117, 101] : Str)))) rfl rfl rfl) (Zg 20 rfl (Yt rfl) (OV.pickT rfl u143 rfl) (Zg 21 rfl (Yt rfl) Ym ?_)))
 rcases h.em with ⟨u146, h⟩ | ⟨u146, h⟩
 refine Zg 22 rfl (Yt u146) Yf ?_
 obtain ⟨x147, v148, h⟩ := h
 refine Zg 23 rfl (Yt u146) (Yo v148) (Zg 24 rfl (Yt u146) (OV.sbin (a := x147) (b := ([102, 97, 108, 115, 101] : Str)) (v := .bool (!(x147 == ([102, 97, 108, 115, 101] : Str)))) rfl rfl rfl) (Zg 25 rfl (Yt rfl) (OV.pickT rfl u146 rfl) (Zg 26 rfl (Yt u131) (OV.pickF rfl rfl rfl) (Zp 27 rfl (OV.pickT rfl u131 rfl) (Zp 32 rfl Ya (Zp 33 rfl Ya (GA.done (by kernel_rfl) ?_)))))))
 exact Yj I3 ((!(x147 == ([102, 97, 108, 115, 101] : Str))), (decide (((Sl.len x125 : Int) : Int) ≤ 8))) h
 refine Zj 22 rfl (Yw u146) (Zj 23 rfl (Yw u146) (Zj 24 rfl (Yw u146) (Zg 25 rfl (Yt rfl) (OV.pickF rfl u146 rfl) (Zg 26 rfl (Yt u131) (OV.pickF rfl rfl rfl) (Zp 27 rfl (OV.pickT rfl u131 rfl) (Zp 32 rfl Ya (Zp 33 rfl Ya (GA.done (by kernel_rfl) ?_))))))))
 exact Yj I3 (false, (decide (((Sl.len x125 : Int) : Int) ≤ 8))) h
 refine Zj 17 rfl (Yw u143) (Zj 18 rfl (Yw u143) (Zj 19 rfl (Yw u143) (Zg 20 rfl (Yt rfl) (OV.pickF rfl u143 rfl) (Zg 21 rfl (Yt rfl) Ym (Zj 22 rfl (Yw rfl) (Zj 23 rfl (Yw rfl) (Zj 24 rfl (Yw rfl) (Zg 25 rfl (Yt rfl) (OV.pickF rfl rfl rfl) (Zg 26 rfl (Yt u131) (OV.pickF rfl rfl rfl) (Zp 27 rfl (OV.pickT rfl u131 rfl) (Zp 32 rfl Ya (Zp 33 rfl Ya (GA.done (by kernel_rfl) ?_)))))))))))))
 exact Yj I3 (false, (decide (((Sl.len x125 : Int) : Int) ≤ 8))) h
 refine Zj 8 rfl (Yw u131) (Zj 9 rfl (Yw u131) (Zj 10 rfl ⟨_, rfl, .inr rfl⟩ (Zj 11 rfl ⟨_, rfl, .inr rfl⟩ (Zj 12 rfl (Yw u131) (Zj 13 rfl (Yw u131) (Zj 14 rfl ⟨_, rfl, .inr rfl⟩ (Zj 15 rfl ⟨_, rfl, .inr rfl⟩ (Zj 16 rfl ⟨_, rfl, .inr rfl⟩ (Zj 17 rfl ⟨_, rfl, .inr rfl⟩ (Zj 18 rfl ⟨_, rfl, .inr rfl⟩ (Zj 19 rfl ⟨_, rfl, .inr rfl⟩ (Zj 20 rfl ⟨_, rfl, .inr rfl⟩ (Zj 21 rfl ⟨_, rfl, .inr rfl⟩ (Zj 22 rfl ⟨_, rfl, .inr rfl⟩ (Zj 23 rfl ⟨_, rfl, .inr rfl⟩ (Zj 24 rfl ⟨_, rfl, .inr rfl⟩ (Zj 25 rfl ⟨_, rfl, .inr rfl⟩ (Zj 26 rfl (Yw u131) (Zp 27 rfl (OV.pickF rfl u131 rfl) (Zp 32 rfl Ya (Zp 33 rfl Ya (GA.done (by kernel_rfl) ?_))))))))))))))))))))))
 exact Yj I3 (false, (decide (((Sl.len x125 : Int) : Int) ≤ 8))) h
 refine Zj 4 rfl (Yw u127) (Zj 5 rfl (Yw u127) (Zp 6 rfl (OV.pickF rfl u127 rfl) (Zp 7 rfl Ym (Zj 8 rfl (Yw rfl) (Zj 9 rfl (Yw rfl) (Zj 10 rfl ⟨_, rfl, .inr rfl⟩ (Zj 11 rfl ⟨_, rfl, .inr rfl⟩ (Zj 12 rfl (Yw rfl) (Zj 13 rfl (Yw rfl) (Zj 14 rfl ⟨_, rfl, .inr rfl⟩ (Zj 15 rfl ⟨_, rfl, .inr rfl⟩ (Zj 16 rfl ⟨_, rfl, .inr rfl⟩ (Zj 17 rfl ⟨_, rfl, .inr rfl⟩ (Zj 18 rfl ⟨_, rfl, .inr rfl⟩ (Zj 19 rfl ⟨_, rfl, .inr rfl⟩ (Zj 20 rfl ⟨_, rfl, .inr rfl⟩ (Zj 21 rfl ⟨_, rfl, .inr rfl⟩ (Zj 22 rfl ⟨_, rfl, .inr rfl⟩ (Zj 23 rfl ⟨_, rfl, .inr rfl⟩ (Zj 24 rfl ⟨_, rfl, .inr rfl⟩ (Zj 25 rfl ⟨_, rfl, .inr rfl⟩ (Zj 26 rfl (Yw rfl) (Zp 27 rfl (OV.pickF rfl rfl rfl) (Zp 32 rfl Ya (Zp 33 rfl Ya (GA.done (by kernel_rfl) ?_))))))))))))))))))))))))))
 exact Yj I3 (false, (decide (((Sl.len x125 : Int) : Int) ≤ 8))) h
 intro x118 H119 h
 replace h := hR120 x118 H119 h
 exact Yj I3 (x118.1, x118.2) h
 refine GC.region (Za ?_)
 exact Yj I3 (false, true) h
 intro x20 H21 h
 replace h := hR22 x20 H21 h
 refine GC.seq (Zo (Zf (Yl h fun x149 h => ?_)))
 refine Zq (Zm (GL.nil (GC.block (Yp h (fun x151 => [(2, .bool x151.1), (3, .bool x151.2.1), (162, .int .i64 x151.2.2), (160, slv x149), (161, .int .i64 (Sl.len x149 : Int))]) ?_))))
 intro x151 H153 J152 h
 refine Zo (Zi (.bool (decide ((x151.2.2 : Int) < (Sl.len x149 : Int)))) (GL.nil (GC.seq (Yd h (fun u154 h => ?_) fun u154 h => ?_))))
 refine GC.skip (GC.seq (GC.block (Zo (Yx h fun p155 h => ?_))))
 obtain ⟨x160, v161, h⟩ := h
 refine Zv (OV.loadT rfl rfl rfl v161) (GL.alloc (cs := Qa.c Qa.zero) h trivial rfl rfl rfl ?_)
 intro b162 H163 h
 refine GL.storeT (p := (b162, 0)) (vs := Qa.c x160) h trivial rfl rfl rfl rfl ?_
 intro H164 h
 refine GL.nil (Zo ?_)
 obtain ⟨x165, v166, h⟩ := h
 refine Zv (OV.loadT rfl rfl rfl v166) (Zc h QcD ?_)
 rintro _ H169 ⟨r167, r168, rfl, h⟩
 refine Zm (Yv (.bool r167) rfl rfl (Yv (.bool r168) rfl rfl (Za (Za (GL.nil (GC.region (Zm (Zm (GL.cut0 2 [(174, .bool (x151.1 && r167)), (3, .bool x151.2.1), (12, .bool r168), (160, slv x149), (161, .int .i64 (Sl.len x149 : Int)), (162, .int .i64 x151.2.2)] ?_ ?_)))))))))
 rcases Bool.eq_false_or_eq_true x151.1 with u170 | u170
 refine Zu u170 Ym (Zt u170 ?_)
 exact GL.jump0 (fun _ _ h => h) () rfl ⟨(by rw [u170]; rfl), rfl, rfl, rfl, rfl, rfl, trivial⟩
 refine Zk u170 (Zn u170 ?_)
 exact GL.jump0 (fun _ _ h => h) () rfl ⟨(by rw [u170]; rfl), rfl, rfl, rfl, rfl, rfl, trivial⟩
 refine Zm (Zm (GL.cut0 2 [(178, .bool (x151.2.1 && r168)), (160, slv x149), (161, .int .i64 (Sl.len x149 : Int)), (162, .int .i64 x151.2.2), (174, .bool (x151.1 && r167))] ?_ ?_))
 rcases Bool.eq_false_or_eq_true x151.2.1 with u171 | u171
 refine Zu u171 Ym (Zt u171 ?_)
 exact GL.jump0 (fun _ _ h => h) () rfl ⟨(by rw [u171]; rfl), rfl, rfl, rfl, rfl, trivial⟩
 refine Zk u171 (Zn u171 ?_)
 exact GL.jump0 (fun _ _ h => h) () rfl ⟨(by rw [u171]; rfl), rfl, rfl, rfl, rfl, trivial⟩
 refine Za (Za (GL.nil_to (fun _ _ h => h) (GC.region (Zi (.int .i64 (w .i64 (x151.2.2 + 1))) (Zm ?_)))))
 exact Yj I3 ((x151.1 && r167), (x151.2.1 && r168), (w .i64 (x151.2.2 + 1))) h
 refine GC.exit_to (fun _ _ h => h) (Zo (Zm (Zm (Za (Za (GL.nil ?_))))))
 exact Y2 I3 ⟨x151.1, x151.2.1, rfl, h⟩
def QeS (C : Ctx) (p_b : Sl) (K : Option (Nat × Nat) → Heap → Prop) (H : Heap) : Prop :=
 Qag C p_b (fun r1 H2 =>
 nw (Qat.c (⟨r1, 0⟩ : Qat)) (fun b3 H4 =>
 K (some (b3, 0)) H4) H2) H
theorem QhM (C p_b K H) (h : QeS C p_b K H) : Qdy C p_b K H := by
 refine Ye Tryz.func61 rfl Tryz.ntmps61 [(0, slv p_b)] (Zo (Za (GL.nil (Zo (Zm (Zc h Qc6 ?_))))))
 rintro _ H2 ⟨r1, rfl, h⟩
 refine Zv (OV.build (vs := [(0, slv r1)]) (v := .agg (Qat.c (⟨r1, 0⟩ : Qat)).toArray) rfl (fun _ => by kernel_rfl)) (GL.box (v := .agg (Qat.c (⟨r1, 0⟩ : Qat)).toArray) (cs := Qat.c (⟨r1, 0⟩ : Qat)) h trivial rfl rfl rfl ?_)
 intro b3 H4 h
 refine Za (GL.nil ?_)
 exact Y1 I3 ⟨(some (b3, 0)), rfl, h⟩
def Qdk (C : Ctx) (p_p : Option (Nat × Nat)) (p_v : Qa) (K : Heap → Prop) (H : Heap) : Prop :=
 nw (Qa.c p_v) (fun b1 H2 =>
 nw ((List.replicate 7 (.nilFunc : Value))) (fun b3 H4 =>
 stC 7 (b3, 0) [.nilFunc, .func (.func 78) (List.toArray []) (List.toArray []), .func (.func 79) (List.toArray []) (List.toArray []), .func (.func 80) (List.toArray []) (List.toArray []), .func (.func 81) (List.toArray []) (List.toArray []), .func (.func 82) (List.toArray []) (List.toArray []), .func (.func 83) (List.toArray []) (List.toArray [])] (fun H5 =>
 ldI H5 .u8 ((b1, 0).1, (b1, 0).2 + 0) fun x8 =>
 nw ([.int .u8 x8]) (fun b10 H11 =>
 Qk C p_p (Sl.of (some (b10, 0)) 1 1) (fun H12 =>
 dr H12 fun Hs13 =>
 ldI Hs13 .u8 ((b1, 0).1, (b1, 0).2 + 0) fun x15 =>
 ixr (b3, 0) 7 x15 <|
 ldV Hs13 ((b3, 0).1, (b3, 0).2 + (x15 : Int).toNat * 1) fun x19 =>
 ldT Hs13 Qa.c (b1, 0) fun x21 =>
 callU Tryz.prog C x19 [pv p_p, .agg (Qa.c x21).toArray] H12 (fun v H24 => v = .tuple #[] ∧
 Heap.le Hs13 H24 ∧
 K H24)) H11) H5) H4) H2) H
theorem Qgb (C p_p p_v K H) (h : Qdk C p_p p_v K H) : Qa3 C p_p p_v K H := by
 refine Ye Tryz.func62 rfl Tryz.ntmps62 [(0, pv p_p), (1, .agg (Qa.c p_v).toArray)] (Zo (GL.box (v := .agg (Qa.c p_v).toArray) (cs := Qa.c p_v) h trivial rfl rfl rfl ?_))
 intro b1 H2 h
 refine GL.nil (Zo (Zv (OV.build (vs := [(1, .func (.func 78) (List.toArray []) (List.toArray [])), (2, .func (.func 79) (List.toArray []) (List.toArray [])), (3, .func (.func 80) (List.toArray []) (List.toArray [])), (4, .func (.func 81) (List.toArray []) (List.toArray [])), (5, .func (.func 82) (List.toArray []) (List.toArray [])), (6, .func (.func 83) (List.toArray []) (List.toArray []))]) (v := .agg (List.toArray [.nilFunc, .func (.func 78) (List.toArray []) (List.toArray []), .func (.func 79) (List.toArray []) (List.toArray []), .func (.func 80) (List.toArray []) (List.toArray []), .func (.func 81) (List.toArray []) (List.toArray []), .func (.func 82) (List.toArray []) (List.toArray []), .func (.func 83) (List.toArray []) (List.toArray [])])) rfl (fun _ => by kernel_rfl)) (GL.alloc (cs := (List.replicate 7 (.nilFunc : Value))) h trivial rfl rfl rfl ?_)))
 intro b3 H4 h
 obtain ⟨hl6, h17, h⟩ := h
 refine GL.storeT (p := (b3, 0)) (vs := [.nilFunc, .func (.func 78) (List.toArray []) (List.toArray []), .func (.func 79) (List.toArray []) (List.toArray []), .func (.func 80) (List.toArray []) (List.toArray []), .func (.func 81) (List.toArray []) (List.toArray []), .func (.func 82) (List.toArray []) (List.toArray []), .func (.func 83) (List.toArray []) (List.toArray [])]) h trivial rfl rfl h17 (by rw [hl6]; rfl) ?_
 intro H5 h
 refine GL.nil (Zo (Zm (Zf (Yl h fun x8 h => ?_))))
 refine GL.buildSlice (cs := [.int .u8 x8]) h trivial rfl (vs := [(0, .int .u8 x8)]) rfl ⟨5, fun _ => by kernel_rfl⟩ ?_
 intro b10 H11 h
 refine Zc h Qq ?_
 rintro _ H12 ⟨rfl, h⟩
 refine GL.nil ?_
 obtain ⟨Hs13, hle14, h⟩ := h
 refine GC.any (Hs := Hs13) (by kernel_rfl) hle14 (Zp 0 rfl Yf ?_)
 obtain ⟨x15, v16, h⟩ := h
 refine Zp 1 rfl (Yo v16) ?_
 obtain ⟨ha17, hb18, h⟩ := h
 refine Zp 2 rfl (OV.indexAddrA (p := (b3, 0)) rfl rfl rfl rfl ha17 hb18) ?_
 obtain ⟨x19, v20, h⟩ := h
 refine Zp 3 rfl (Yo v20) (Zp 4 rfl Ym ?_)
 obtain ⟨x21, v22, h⟩ := h
 refine Zp 5 rfl (OV.loadT rfl rfl rfl v22) (GA.eff 6 rfl (by kernel_rfl) (GL.callU (xv := x19) (vs := [pv p_p, .agg (Qa.c x21).toArray]) h trivial rfl rfl rfl ?_))
 rintro _ H24 ⟨rfl, h⟩
 obtain ⟨hle23, h⟩ := h
 refine GA.back hle23 (GA.done (by kernel_rfl) ?_)
 exact GL.ends (fun _ _ hf hs => Qv rfl hf hs ⟨rfl, h⟩)
def QaC (C : Ctx) (p_b : Option (Nat × Nat)) (K : Heap → Prop) (H : Heap) : Prop :=
 nck p_b fun p1 =>
 ldP H (p1.1, p1.2 + 0) fun x3 =>
 ift (Option.isNone x3)
 (∃ p7, p_b = some p7 ∧ cvU p7 (
 cvP 84 2 p7 (
 nck p_b fun p10 =>
 sttG (p10.1, p10.2 + 0) (pv (some p7)) (fun H12 =>
 K H12) H) H) H)
 (nck p_b fun p13 =>
 ldP H (p13.1, p13.2 + 0) fun x15 =>
 ∃ p17, x15 = some p17 ∧ p_b = some p17 ∧
 ift false
 (False)
 (K H))
theorem Qb2 (C p_b K H) (h : QaC C p_b K H) : Qy C p_b K H := by
 refine Ye Tryz.func64 rfl Tryz.ntmps64 [(0, pv p_b)] (Zo (Zm ?_))
 obtain ⟨p1, hp2, h⟩ := h
 refine Zv (OV.nilCheck (q := p_b) rfl hp2) (Zf (Yl h fun x3 h => ?_))
 refine Zv (OV.eqlNil (p := x3) rfl rfl rfl) (GL.nil (Yd h (fun u5 h => ?_) fun u5 h => ?_))
 refine GC.region (Zm (Zm ?_))
 obtain ⟨p7, hp8, hu6, h⟩ := h
 refine Zv (OV.cvU (q := p_b) (p := p7) hp8 hu6 rfl rfl rfl ⟨_, rfl, by decide⟩) (Zv (OV.ext Qc3 (vs := [pv (some p7)]) (v := pv (some p7)) rfl (fun w => Qmv _ w)) ?_)
 obtain ⟨hu9, h⟩ := h
 refine Zv (OV.cvP (T := 84) (len := 2) (p := p7) hu9 rfl rfl rfl ⟨_, rfl⟩ (by kernel_rfl)) ?_
 obtain ⟨p10, hp11, h⟩ := h
 refine Zv (OV.nilCheck (q := p_b) rfl hp11) (Zf (GL.storeG (p := (p10.1, p10.2 + 0)) (v := pv (some p7)) h trivial rfl rfl rfl rfl ?_))
 intro H12 h
 exact GL.ends (fun _ _ hf hs => Qv rfl hf hs ⟨rfl, h⟩)
 refine Zo (Zm ?_)
 obtain ⟨p13, hp14, h⟩ := h
 refine Zv (OV.nilCheck (q := p_b) rfl hp14) (Zf (Yl h fun x15 h => ?_))
 refine Zm ?_
 obtain ⟨p17, hp18, hq19, h⟩ := h
 refine Zv (OV.neqSame (p := x15) (q := p_b) rfl rfl hp18 hq19 rfl rfl) (GL.nil (Yd h (fun u20 h => ?_) fun u20 h => ?_))
 exact GC.never h
 exact GC.ends (fun _ _ hf hs => Qv rfl hf hs ⟨rfl, h⟩)
def Qbw (C : Ctx) (p_b : Option (Nat × Nat)) (p_n : Int) (K : Heap → Prop) (H : Heap) : Prop :=
 dr H fun Hs1 =>
 nck p_b fun p3 =>
 ldL Hs1 (p3.1, p3.2 + 1) fun x5 =>
 nck p_b fun p7 =>
 ldL Hs1 (p7.1, p7.2 + 1) fun x9 =>
 mnz 5 (w .i64 ((w .i64 (2 * (Sl.cap x5 : Int))) + p_n)) (fun r12 H13 =>
 Heap.le Hs1 H13 ∧
 slL r12 0 (Sl.len x9 : Int) (Sl.cap r12 : Int) 1 fun t14 =>
 nck p_b fun p20 =>
 ldL H13 (p20.1, p20.2 + 1) fun x22 =>
 cpyG 1 t14 x22 (fun r24 H25 =>
 nck p_b fun p26 =>
 sttG (p26.1, p26.2 + 1) (slv t14) (fun H28 =>
 K H28) H25) H13) H
theorem Qdv (C p_b p_n K H) (h : Qbw C p_b p_n K H) : Qu C p_b p_n K H := by
 refine Ye Tryz.func65 rfl Tryz.ntmps65 [(0, pv p_b), (1, .int .i64 p_n)] (GC.seq ?_)
 obtain ⟨Hs1, hle2, h⟩ := h
 refine GC.any (Hs := Hs1) (by kernel_rfl) hle2 (Zp 0 rfl Ym ?_)
 obtain ⟨p3, hp4, h⟩ := h
 refine Zp 1 rfl (OV.nilCheck (q := p_b) rfl hp4) (Zp 2 rfl Yf ?_)
 obtain ⟨x5, v6, h⟩ := h
 refine Zp 3 rfl (Yo v6) (Zp 4 rfl (OV.cap (s := x5) rfl rfl rfl) (Zp 5 rfl (OV.ibin (v := .int .i64 (w .i64 (2 * (Sl.cap x5 : Int)))) rfl rfl rfl) (Zp 6 rfl Ym (Zp 7 rfl (OV.ibin (v := .int .i64 (w .i64 ((w .i64 (2 * (Sl.cap x5 : Int))) + p_n))) rfl rfl rfl) (Zp 9 rfl Ym ?_)))))
 obtain ⟨p7, hp8, h⟩ := h
 refine Zp 10 rfl (OV.nilCheck (q := p_b) rfl hp8) (Zp 11 rfl Yf ?_)
 obtain ⟨x9, v10, h⟩ := h
 refine Zp 12 rfl (Yo v10) (Zp 13 rfl (OV.lenSl rfl rfl) (GA.eff 8 rfl (by kernel_rfl) (GL.mnz (e := 5) (m := w .i64 ((w .i64 (2 * (Sl.cap x5 : Int))) + p_n)) h trivial rfl QbD rfl rfl ?_)))
 intro r12 H13 h
 obtain ⟨hle11, h⟩ := h
 refine GA.back hle11 ?_
 obtain ⟨h15, h16, h17, h18, t14, h19, h⟩ := h
 refine Zp 14 rfl (OV.sliceSl (s := r12) h15 h16 h17 h18 h19 rfl rfl rfl rfl rfl rfl rfl (fun h => by first | rfl | cases h) rfl rfl) (Zp 15 rfl Ya (GA.done (by kernel_rfl) (GL.nil (Zo (Zm (Zm ?_))))))
 obtain ⟨p20, hp21, h⟩ := h
 refine Zv (OV.nilCheck (q := p_b) rfl hp21) (Zf (Yl h fun x22 h => ?_))
 refine GL.copyG (s := t14) (s2 := x22) (z := 1) h trivial rfl rfl rfl rfl rfl ?_
 intro r24 H25 h
 refine GL.nil (GC.region (Zm (Zm ?_)))
 obtain ⟨p26, hp27, h⟩ := h
 refine Zv (OV.nilCheck (q := p_b) rfl hp27) (Zf (GL.storeG (p := (p26.1, p26.2 + 1)) (v := slv t14) h trivial rfl rfl rfl rfl ?_))
 intro H28 h
 exact GL.ends (fun _ _ hf hs => Qv rfl hf hs ⟨rfl, h⟩)
def QgD (C : Ctx) (p_l : Sl) (K : Bool → Heap → Prop) (H : Heap) : Prop :=
 Qn C p_l (.func (.func 102) (List.toArray []) (List.toArray []) : Value) (fun r1 H2 =>
 K (!r1) H2) H
theorem Qjk (C p_l K H) (h : QgD C p_l K H) : QdE C p_l K H := by
 refine Ye Tryz.func68 rfl Tryz.ntmps68 [(0, slv p_l)] (Zo (Za (GL.nil (Zo (Zm (Zc h Qar ?_))))))
 rintro _ H2 ⟨r1, rfl, h⟩
 refine Zv (OV.not rfl) (Za (GL.nil ?_))
 exact Y1 I3 ⟨(!r1), rfl, h⟩
def Qf4 (C : Ctx) (p_a : Bool) (p_b : Bool) (K : Int → Heap → Prop) (H : Heap) : Prop :=
 ift (p_a == p_b)
 (K 0 H)
 (ift p_a
 (K (-1) H)
 (K 1 H))
theorem QiC (C p_a p_b K H) (h : Qf4 C p_a p_b K H) : Qee C p_a p_b K H := by
 refine Ye Tryz.func69 rfl Tryz.ntmps69 [(0, .bool p_a), (1, .bool p_b)] (Zo (Za (GL.nil (GC.seq (GC.block (Zo (Zm (Zm (Zv (OV.eqlBool rfl rfl rfl) (Za (GL.nil (Yd h (fun u1 h => ?_) fun u1 h => ?_))))))))))))
 refine Zo (Za (GL.nil ?_))
 exact Y1 I3 ⟨0, rfl, h⟩
 refine Zo (Zm (Za (GL.nil (Yd h (fun u2 h => ?_) fun u2 h => ?_))))
 refine Zo (Za (GL.nil ?_))
 exact Y1 I3 ⟨(-1), rfl, h⟩
 refine GC.skip_to (fun _ _ h => h) (Zo (Za (GL.nil ?_)))
 exact Y1 I3 ⟨1, rfl, h⟩
def Qf6 (C : Ctx) (p_a : Sl) (p_b : Sl) (K : Int → Heap → Prop) (H : Heap) : Prop :=
 Qb C p_a p_b (.func (.func 104) (List.toArray []) (List.toArray []) : Value) (fun r1 H2 =>
 K r1 H2) H
theorem QiE (C p_a p_b K H) (h : Qf6 C p_a p_b K H) : QbN C p_a p_b K H := by
 refine Ye Tryz.func70 rfl Tryz.ntmps70 [(0, slv p_a), (1, slv p_b)] (Zo (Za (GL.nil (Zo (Zm (Zm (Zc h QF ?_)))))))
 rintro _ H2 ⟨r1, rfl, h⟩
 refine Za (GL.nil ?_)
 exact Y1 I3 ⟨r1, rfl, h⟩
def QfW (C : Ctx) (p_s : Str) (K : Bool → Heap → Prop) (H : Heap) : Prop :=
 jn (α := Bool) (fun b2 H11 =>
 ift b2
 (K false H11)
 (lp (α := Int) 0 H11 (fun x13 J14 H15 =>
 ift (decide ((x13 : Int) < (List.length p_s : Int)))
 (ixs p_s x13 fun c17 =>
 QbH C (c17.toNat : Int) (fun r20 H21 =>
 ift ((((!r20) && (!((decide (((c17.toNat : Int) : Int) ≥ 65)) && (decide (((c17.toNat : Int) : Int) ≤ 90))))) && (!((decide (((c17.toNat : Int) : Int) ≥ 48)) && (decide (((c17.toNat : Int) : Int) ≤ 57))))) && (((c17.toNat : Int) : Int) != 95))
 (K false H21)
 (J14 (w .i64 (x13 + 1)) H21)) H15)
 (K true H15))))
 (fun J3 => ift ((p_s == ([] : Str)) || (decide (((List.length p_s : Int) : Int) > 32)))
 (J3 true H)
 (ixs p_s 0 fun c6 =>
 QbH C (c6.toNat : Int) (fun r9 H10 =>
 J3 (!r9) H10) H))
theorem Qiu (C p_s K H) (h : QfW C p_s K H) : QbL C p_s K H := by
 refine Ye Tryz.func71 rfl Tryz.ntmps71 [(0, sv p_s)] (Zo (Za (GL.nil (GC.seq (Zo (Zm (Zv (OV.sbin (a := p_s) (b := ([] : Str)) (v := .bool (p_s == ([] : Str))) rfl rfl rfl) (Zm (GL.cut0 4 [(11, .bool ((p_s == ([] : Str)) || (decide (((List.length p_s : Int) : Int) > 32)))), (0, sv p_s)] ?_ ?_)))))))))
 rcases Zb (p_s == ([] : Str)) with hc1 | hc1
 refine Zk hc1 (Zk hc1 (Zk hc1 (Zt hc1 ?_)))
 exact GL.jump0 (fun _ _ h => h) () rfl ⟨(by rw [hc1]; rfl), rfl, trivial⟩
 refine Zu hc1 Ym (Zu hc1 (OV.lenStr rfl rfl) (Zu hc1 (OV.ibin (v := .bool (decide (((List.length p_s : Int) : Int) > 32))) rfl rfl rfl) (Zn hc1 ?_)))
 exact GL.jump0 (fun _ _ h => h) () rfl ⟨(by rw [hc1]; rfl), rfl, trivial⟩
 refine Zm ?_
 obtain ⟨J3, h, hR4⟩ := h
 refine GL.cut (α := Bool) 5 J3 (fun b2 => [(17, .bool b2), (0, sv p_s)]) ?_ ?_
 rcases h.em with ⟨hc5, h⟩ | ⟨hc5, h⟩
 refine Zk hc5 (Zk hc5 (Zk hc5 (Zk hc5 (Zt hc5 ?_))))
 exact Yj I3 true h
 refine Zu hc5 Ym ?_
 obtain ⟨c6, ha7, hb8, h⟩ := h
 refine Zu hc5 (OV.indexStr rfl rfl rfl ha7 hb8) (GL.call h (Yt hc5) rfl Qei (vs := [.int .u8 (c6.toNat : Int)]) rfl ?_)
 rintro _ H10 ⟨r9, rfl, h⟩
 refine Zu hc5 (OV.not rfl) (Zn hc5 ?_)
 exact Yj I3 (!r9) h
 intro b2 H11 h
 replace h := hR4 b2 H11 h
 refine GL.nil (Yd h (fun hc12 h => ?_) fun hc12 h => ?_)
 refine Zo (Za (GL.nil ?_))
 exact Y1 I3 ⟨false, rfl, h⟩
 refine GC.skip (GC.seq (Zo (Za (GL.nil (GC.block (Yp h (fun x13 => [(3, .int .i64 x13), (0, sv p_s)]) ?_))))))
 intro x13 H15 J14 h
 refine GC.seq (Zo (Zm (Zm (Zr (Zi (.bool (decide ((x13 : Int) < (List.length p_s : Int)))) (GL.nil (Yd h (fun hc16 h => ?_) fun hc16 h => ?_)))))))
 refine GC.skip (GC.seq (GC.block (Zo (Zm (Zm (Ys h fun c17 h => ?_))))))
 refine Za (GL.nil (Zo (Zm (Zc h Qei ?_))))
 rintro _ H21 ⟨r20, rfl, h⟩
 refine Zv (OV.not rfl) (Zm (GL.cut0 8 [(38, .bool ((!r20) && (!((decide (((c17.toNat : Int) : Int) ≥ 65)) && (decide (((c17.toNat : Int) : Int) ≤ 90)))))), (0, sv p_s), (3, .int .i64 x13), (4, .int .u8 (c17.toNat : Int))] ?_ ?_))
 rcases Zb (!r20) with hc22 | hc22
 refine Zu hc22 Ym (Zu hc22 (OV.ibin (v := .bool (decide (((c17.toNat : Int) : Int) ≥ 65))) rfl rfl rfl) (Zu hc22 Ym (GL.cut0 3 [(36, .bool ((decide (((c17.toNat : Int) : Int) ≥ 65)) && (decide (((c17.toNat : Int) : Int) ≤ 90)))), (0, sv p_s), (3, .int .i64 x13), (4, .int .u8 (c17.toNat : Int)), (30, .bool (!r20))] ?_ ?_)))
 rcases Zb (decide (((c17.toNat : Int) : Int) ≥ 65)) with hc23 | hc23
 refine Zu hc23 Ym (Zu hc23 (OV.ibin (v := .bool (decide (((c17.toNat : Int) : Int) ≤ 90))) rfl rfl rfl) (Zu hc22 (OV.pickT rfl hc23 rfl) ?_))
 exact GL.jump0 (fun _ _ h => h) () rfl ⟨(by rw [hc23]; rfl), rfl, rfl, rfl, rfl, trivial⟩
 refine Zk hc23 (Zk hc23 (Zu hc22 (OV.pickF rfl hc23 rfl) ?_))
 exact GL.jump0 (fun _ _ h => h) () rfl ⟨(by rw [hc23]; rfl), rfl, rfl, rfl, rfl, trivial⟩
 refine Zu hc22 (OV.not rfl) (Zt hc22 ?_)
 exact GL.jump0 (fun _ _ h => h) () rfl ⟨(by rw [hc22]; rfl), rfl, rfl, rfl, trivial⟩
 refine Zk hc22 (Zk hc22 (Zk hc22 (GL.skip ⟨_, rfl, .inr rfl⟩ rfl (GL.skip ⟨_, rfl, .inr rfl⟩ rfl (Zk hc22 (Zk hc22 (Zn hc22 ?_)))))))
 exact GL.jump0 (fun _ _ h => h) () rfl ⟨(by rw [hc22]; rfl), rfl, rfl, rfl, trivial⟩
 refine Zm (GL.cut0 8 [(47, .bool (((!r20) && (!((decide (((c17.toNat : Int) : Int) ≥ 65)) && (decide (((c17.toNat : Int) : Int) ≤ 90))))) && (!((decide (((c17.toNat : Int) : Int) ≥ 48)) && (decide (((c17.toNat : Int) : Int) ≤ 57)))))), (0, sv p_s), (3, .int .i64 x13), (4, .int .u8 (c17.toNat : Int))] ?_ ?_)
 rcases Zb ((!r20) && (!((decide (((c17.toNat : Int) : Int) ≥ 65)) && (decide (((c17.toNat : Int) : Int) ≤ 90))))) with hc24 | hc24
 refine Zu hc24 Ym (Zu hc24 (OV.ibin (v := .bool (decide (((c17.toNat : Int) : Int) ≥ 48))) rfl rfl rfl) (Zu hc24 Ym (GL.cut0 3 [(45, .bool ((decide (((c17.toNat : Int) : Int) ≥ 48)) && (decide (((c17.toNat : Int) : Int) ≤ 57)))), (0, sv p_s), (3, .int .i64 x13), (4, .int .u8 (c17.toNat : Int)), (39, .bool ((!r20) && (!((decide (((c17.toNat : Int) : Int) ≥ 65)) && (decide (((c17.toNat : Int) : Int) ≤ 90))))))] ?_ ?_)))
 rcases Zb (decide (((c17.toNat : Int) : Int) ≥ 48)) with hc25 | hc25
 refine Zu hc25 Ym (Zu hc25 (OV.ibin (v := .bool (decide (((c17.toNat : Int) : Int) ≤ 57))) rfl rfl rfl) (Zu hc24 (OV.pickT rfl hc25 rfl) ?_))
 exact GL.jump0 (fun _ _ h => h) () rfl ⟨(by rw [hc25]; rfl), rfl, rfl, rfl, rfl, trivial⟩
 refine Zk hc25 (Zk hc25 (Zu hc24 (OV.pickF rfl hc25 rfl) ?_))
 exact GL.jump0 (fun _ _ h => h) () rfl ⟨(by rw [hc25]; rfl), rfl, rfl, rfl, rfl, trivial⟩
 refine Zu hc24 (OV.not rfl) (Zt hc24 ?_)
 exact GL.jump0 (fun _ _ h => h) () rfl ⟨(by rw [hc24]; rfl), rfl, rfl, rfl, trivial⟩
 refine Zk hc24 (Zk hc24 (Zk hc24 (GL.skip ⟨_, rfl, .inr rfl⟩ rfl (GL.skip ⟨_, rfl, .inr rfl⟩ rfl (Zk hc24 (Zk hc24 (Zn hc24 ?_)))))))
 exact GL.jump0 (fun _ _ h => h) () rfl ⟨(by rw [hc24]; rfl), rfl, rfl, rfl, trivial⟩
 refine Zm (GL.cut0 3 [(51, .bool ((((!r20) && (!((decide (((c17.toNat : Int) : Int) ≥ 65)) && (decide (((c17.toNat : Int) : Int) ≤ 90))))) && (!((decide (((c17.toNat : Int) : Int) ≥ 48)) && (decide (((c17.toNat : Int) : Int) ≤ 57))))) && (((c17.toNat : Int) : Int) != 95))), (0, sv p_s), (3, .int .i64 x13)] ?_ ?_)
 rcases Zb (((!r20) && (!((decide (((c17.toNat : Int) : Int) ≥ 65)) && (decide (((c17.toNat : Int) : Int) ≤ 90))))) && (!((decide (((c17.toNat : Int) : Int) ≥ 48)) && (decide (((c17.toNat : Int) : Int) ≤ 57))))) with hc26 | hc26
 refine Zu hc26 Ym (Zu hc26 (OV.ibin (v := .bool (((c17.toNat : Int) : Int) != 95)) rfl rfl rfl) (Zt hc26 ?_))
 exact GL.jump0 (fun _ _ h => h) () rfl ⟨(by rw [hc26]; rfl), rfl, rfl, trivial⟩
 refine Zk hc26 (Zk hc26 (Zn hc26 ?_))
 exact GL.jump0 (fun _ _ h => h) () rfl ⟨(by rw [hc26]; rfl), rfl, rfl, trivial⟩
 refine GL.nil (Yd h (fun hc27 h => ?_) fun hc27 h => ?_)
 refine Zo (Za (GL.nil ?_))
 exact Y1 I3 ⟨false, rfl, h⟩
 refine GC.skip_to (fun _ _ h => h) (GC.region (Zm (Zi (.int .i64 (w .i64 (x13 + 1))) (Za ?_))))
 exact Yj I3 (w .i64 (x13 + 1)) h
 refine GC.exit_to (fun _ _ h => h) (Zo (Za (GL.nil ?_)))
 exact Y1 I3 ⟨true, rfl, h⟩
def Qf2 (C : Ctx) (p_a : Bool) (p_b : Bool) (K : Int → Heap → Prop) (H : Heap) : Prop :=
 ift (p_a == p_b)
 (K 0 H)
 (ift p_a
 (K (-1) H)
 (K 1 H))
theorem QiA (C p_a p_b K H) (h : Qf2 C p_a p_b K H) : Qed C p_a p_b K H := by
 refine Ye Tryz.func72 rfl Tryz.ntmps72 [(0, .bool p_a), (1, .bool p_b)] (Zo (Za (GL.nil (GC.seq (Zo (Zm (Zm (Zv (OV.eqlBool rfl rfl rfl) (GL.nil (Yd h (fun u1 h => ?_) fun u1 h => ?_))))))))))
 refine Zo (Za (GL.nil ?_))
 exact Y1 I3 ⟨0, rfl, h⟩
 refine GC.skip (GC.seq (Zo (Zm (GL.nil (Yd h (fun u2 h => ?_) fun u2 h => ?_)))))
 refine Zo (Za (GL.nil ?_))
 exact Y1 I3 ⟨(-1), rfl, h⟩
 refine GC.skip (Zo (Za (GL.nil ?_)))
 exact Y1 I3 ⟨1, rfl, h⟩
def Qf3 (C : Ctx) (p_a : Sl) (p_b : Sl) (K : Int → Heap → Prop) (H : Heap) : Prop :=
 lp (α := Int) 0 H (fun x1 J2 H3 =>
 ift ((decide ((x1 : Int) < (Sl.len p_a : Int))) && (decide ((x1 : Int) < (Sl.len p_b : Int))))
 (dr H3 fun Hs6 =>
 ixa p_a x1 fun p8 =>
 ldT Hs6 Qa.c (p8.1, p8.2 + (x1 : Int).toNat * 4) fun x13 =>
 ixa p_b x1 fun p15 =>
 ldT Hs6 Qa.c (p15.1, p15.2 + (x1 : Int).toNat * 4) fun x20 =>
 Qal C x13 x20 (fun r23 H24 =>
 Heap.le Hs6 H24 ∧
 ift ((r23 : Int) != 0)
 (K r23 H24)
 (J2 (w .i64 (x1 + 1)) H24)) H3)
 (Qaj C (Sl.len p_a : Int) (Sl.len p_b : Int) (fun r26 H27 =>
 K r26 H27) H3))
theorem QiB (C p_a p_b K H) (h : Qf3 C p_a p_b K H) : Qbc C p_a p_b K H := by
 refine Ye Tryz.func73 rfl Tryz.ntmps73 [(0, slv p_a), (1, slv p_b)] (Zo (Za (GL.nil (GC.seq (Zo (Za (GL.nil (GC.block (Yp h (fun x1 => [(5, .int .i64 x1), (0, slv p_a), (1, slv p_b)]) ?_)))))))))
 intro x1 H3 J2 h
 refine GC.seq (Zo (Zm (Zm (Zq (Zi (.bool (decide ((x1 : Int) < (Sl.len p_a : Int)))) (Zm (GL.cut0 5 [(16, .bool ((decide ((x1 : Int) < (Sl.len p_a : Int))) && (decide ((x1 : Int) < (Sl.len p_b : Int))))), (0, slv p_a), (1, slv p_b), (5, .int .i64 x1)] ?_ ?_)))))))
 rcases Zb (decide ((x1 : Int) < (Sl.len p_a : Int))) with u4 | u4
 refine Zu u4 Ym (Zu u4 Ym (Zu u4 (OV.lenSl rfl rfl) (Zu u4 (OV.ibin (v := .bool (decide ((x1 : Int) < (Sl.len p_b : Int)))) rfl rfl rfl) (Zt u4 ?_))))
 exact GL.jump0 (fun _ _ h => h) () rfl ⟨(by rw [u4]; rfl), rfl, rfl, rfl, trivial⟩
 refine Zk u4 (Zk u4 (Zk u4 (Zk u4 (Zn u4 ?_))))
 exact GL.jump0 (fun _ _ h => h) () rfl ⟨(by rw [u4]; rfl), rfl, rfl, rfl, trivial⟩
 refine GL.nil (Yd h (fun u5 h => ?_) fun u5 h => ?_)
 refine GC.skip (GC.seq (GC.block (GC.seq ?_)))
 obtain ⟨Hs6, hle7, h⟩ := h
 refine GC.any (Hs := Hs6) (by kernel_rfl) hle7 (Zp 0 rfl Ym (Zp 1 rfl Ym ?_))
 obtain ⟨p8, ha9, hb10, u11, hd12, h⟩ := h
 refine Zp 2 rfl (OV.indexAddr rfl rfl rfl rfl ha9 hb10 u11 hd12) ?_
 obtain ⟨x13, v14, h⟩ := h
 refine Zp 3 rfl (OV.loadT rfl rfl rfl v14) (Zp 4 rfl Ym (Zp 5 rfl Ym ?_))
 obtain ⟨p15, ha16, hb17, u18, hd19, h⟩ := h
 refine Zp 6 rfl (OV.indexAddr rfl rfl rfl rfl ha16 hb17 u18 hd19) ?_
 obtain ⟨x20, v21, h⟩ := h
 refine Zp 7 rfl (OV.loadT rfl rfl rfl v21) (GA.eff 8 rfl (by kernel_rfl) (Zc h Qjz ?_))
 rintro _ H24 ⟨r23, rfl, h⟩
 obtain ⟨hle22, h⟩ := h
 refine GA.back hle22 (Zp 9 rfl Ya (GA.done (by kernel_rfl) (GL.nil (Zo (Zm (Zi (.bool ((r23 : Int) != 0)) (GL.nil (Yd h (fun u25 h => ?_) fun u25 h => ?_))))))))
 refine Zo (Zm (Za (GL.nil ?_)))
 exact Y1 I3 ⟨r23, rfl, h⟩
 refine GC.skip_to (fun _ _ h => h) (GC.region (Zm (Zi (.int .i64 (w .i64 (x1 + 1))) (Za ?_))))
 exact Yj I3 (w .i64 (x1 + 1)) h
 refine GC.exit_to (fun _ _ h => h) (Zo (Zm (Zq (Zm (Zq (Zc h QaU ?_))))))
 rintro _ H27 ⟨r26, rfl, h⟩
 refine Za (GL.nil ?_)
 exact Y1 I3 ⟨r26, rfl, h⟩
def Qeu (C : Ctx) (p_s : Str) (K : Int → Bool → Heap → Prop) (H : Heap) : Prop :=
 QaX C p_s [45] (fun r1 H2 =>
 jn (α := Bool) (fun b3 H9 =>
 jn (α := Bool) (fun b10 H18 =>
 ift b10
 (K 0 false H18)
 (K (List.length r1 : Int) true H18))
 (fun J11 => ift b3
 (J11 true H9)
 (ixs r1 0 fun c14 =>
 J11 ((((c14.toNat : Int) : Int) == 48) && (!(p_s == ([48] : Str)))) H9)))
 (fun J4 => ift (r1 == ([] : Str))
 (J4 true H2)
 (Qac C r1 [48, 49, 50, 51, 52, 53, 54, 55, 56, 57] (fun r7 H8 =>
 J4 (!(r7 == ([] : Str))) H8) H2))) H
theorem Qg9 (C p_s K H) (h : Qeu C p_s K H) : Qc2 C p_s K H := by
 refine Ye Tryz.func74 rfl Tryz.ntmps74 [(0, sv p_s)] (Zo (Za (Za (GL.nil (Zo (Zm (Zc h Qej ?_)))))))
 rintro _ H2 ⟨r1, rfl, h⟩
 refine Za (GL.nil (GC.seq (Zo (Zm (Zv (OV.sbin (a := r1) (b := ([] : Str)) (v := .bool (r1 == ([] : Str))) rfl rfl rfl) (Zm ?_))))))
 obtain ⟨J4, h, hR5⟩ := h
 refine GL.cut (α := Bool) 4 J4 (fun b3 => [(13, .bool b3), (0, sv p_s), (4, sv r1)]) ?_ ?_
 rcases h.em with ⟨u6, h⟩ | ⟨u6, h⟩
 refine Zk u6 (Zk u6 (Zk u6 (Zt u6 ?_)))
 exact Yj I3 true h
 refine Zu u6 Ym (GL.call h (Yt u6) rfl Qhv (vs := [sv r1, sv [48, 49, 50, 51, 52, 53, 54, 55, 56, 57]]) rfl ?_)
 rintro _ H8 ⟨r7, rfl, h⟩
 refine Zu u6 (OV.sbin (a := r7) (b := ([] : Str)) (v := .bool (!(r7 == ([] : Str)))) rfl rfl rfl) (Zn u6 ?_)
 exact Yj I3 (!(r7 == ([] : Str))) h
 intro b3 H9 h
 replace h := hR5 b3 H9 h
 refine Zm ?_
 obtain ⟨J11, h, hR12⟩ := h
 refine GL.cut (α := Bool) 8 J11 (fun b10 => [(22, .bool b10), (4, sv r1)]) ?_ ?_
 rcases h.em with ⟨u13, h⟩ | ⟨u13, h⟩
 refine Zk u13 (Zk u13 (Zk u13 (Zk u13 (GL.skip ⟨_, rfl, .inr rfl⟩ rfl (GL.skip ⟨_, rfl, .inr rfl⟩ rfl (Zk u13 (Zt u13 ?_)))))))
 exact Yj I3 true h
 refine Zu u13 Ym ?_
 obtain ⟨c14, ha15, hb16, h⟩ := h
 refine Zu u13 (OV.indexStr rfl rfl rfl ha15 hb16) (Zu u13 (OV.ibin (v := .bool (((c14.toNat : Int) : Int) == 48)) rfl rfl rfl) (Zu u13 Ym (GL.cut0 3 [(21, .bool ((((c14.toNat : Int) : Int) == 48) && (!(p_s == ([48] : Str))))), (4, sv r1), (14, .bool b3)] ?_ ?_)))
 rcases Zb (((c14.toNat : Int) : Int) == 48) with u17 | u17
 refine Zu u17 Ym (Zu u17 (OV.sbin (a := p_s) (b := ([48] : Str)) (v := .bool (!(p_s == ([48] : Str)))) rfl rfl rfl) (Zu u13 (OV.pickT rfl u17 rfl) ?_))
 exact GL.jump0 (fun _ _ h => h) () rfl ⟨(by rw [u17]; rfl), rfl, rfl, trivial⟩
 refine Zk u17 (Zk u17 (Zu u13 (OV.pickF rfl u17 rfl) ?_))
 exact GL.jump0 (fun _ _ h => h) () rfl ⟨(by rw [u17]; rfl), rfl, rfl, trivial⟩
 refine Zn u13 ?_
 exact Yj I3 ((((c14.toNat : Int) : Int) == 48) && (!(p_s == ([48] : Str)))) h
 intro b10 H18 h
 replace h := hR12 b10 H18 h
 refine GL.nil (Yd h (fun u19 h => ?_) fun u19 h => ?_)
 refine Zo (Za (Za (GL.nil ?_)))
 exact Y2 I3 ⟨0, false, rfl, h⟩
 refine GC.skip (Zo (Zm (Zr (Za (Za (GL.nil ?_))))))
 exact Y2 I3 ⟨(List.length r1 : Int), true, rfl, h⟩
def Qe1 (C : Ctx) (p_s : Str) (p_sep : Str) (K : Str → Str → Bool → Heap → Prop) (H : Heap) : Prop :=
 QaW C p_s p_sep (fun r1 r2 r3 H4 =>
 K r1 r2 r3 H4) H
theorem QhV (C p_s p_sep K H) (h : Qe1 C p_s p_sep K H) : QdC C p_s p_sep K H := by
 refine Ye Tryz.func75 rfl Tryz.ntmps75 [(0, sv p_s), (1, sv p_sep)] (Zo (Za (Za (Za (GL.nil (Zo (Zm (Zm (Zc h Qcg ?_)))))))))
 rintro _ H4 ⟨r1, r2, r3, rfl, h⟩
 refine Yv (sv r1) rfl rfl (Yv (sv r2) rfl rfl (Yv (.bool r3) rfl rfl (Za (Za (Za (GL.nil ?_))))))
 exact Y3 I3 ⟨r1, r2, r3, rfl, h⟩
def Qf5 (C : Ctx) (p_s : Str) (K : Bool → Heap → Prop) (H : Heap) : Prop :=
 jn (α := Bool) (fun b2 H9 =>
 jn (α := Bool) (fun b10 H17 =>
 ift b10
 (K false H17)
 (lp (α := Int) 0 H17 (fun x19 J20 H21 =>
 ift (decide ((x19 : Int) < (List.length p_s : Int)))
 (ixs p_s x19 fun c23 =>
 ift (!(((((decide (((c23.toNat : Int) : Int) ≥ 97)) && (decide (((c23.toNat : Int) : Int) ≤ 122))) || ((decide (((c23.toNat : Int) : Int) ≥ 65)) && (decide (((c23.toNat : Int) : Int) ≤ 90)))) || ((decide (((c23.toNat : Int) : Int) ≥ 48)) && (decide (((c23.toNat : Int) : Int) ≤ 57)))) || (((c23.toNat : Int) : Int) == 95)))
 (K false H21)
 (J20 (w .i64 (x19 + 1)) H21))
 (K true H21))))
 (fun J11 => ift b2
 (J11 true H9)
 (ixs p_s 0 fun c14 =>
 J11 (decide (((c14.toNat : Int) : Int) > 122)) H9)))
 (fun J3 => ift ((p_s == ([] : Str)) || (decide (((List.length p_s : Int) : Int) > 32)))
 (J3 true H)
 (ixs p_s 0 fun c6 =>
 J3 (decide (((c6.toNat : Int) : Int) < 97)) H))
theorem QiD (C p_s K H) (h : Qf5 C p_s K H) : Qbd C p_s K H := by
 refine Ye Tryz.func76 rfl Tryz.ntmps76 [(0, sv p_s)] (Zo (Za (GL.nil (GC.seq (Zo (Zm (Zv (OV.sbin (a := p_s) (b := ([] : Str)) (v := .bool (p_s == ([] : Str))) rfl rfl rfl) (Zm (GL.cut0 4 [(11, .bool ((p_s == ([] : Str)) || (decide (((List.length p_s : Int) : Int) > 32)))), (0, sv p_s)] ?_ ?_)))))))))
 rcases Zb (p_s == ([] : Str)) with hc1 | hc1
 refine Zk hc1 (Zk hc1 (Zk hc1 (Zt hc1 ?_)))
 exact GL.jump0 (fun _ _ h => h) () rfl ⟨(by rw [hc1]; rfl), rfl, trivial⟩
 refine Zu hc1 Ym (Zu hc1 (OV.lenStr rfl rfl) (Zu hc1 (OV.ibin (v := .bool (decide (((List.length p_s : Int) : Int) > 32))) rfl rfl rfl) (Zn hc1 ?_)))
 exact GL.jump0 (fun _ _ h => h) () rfl ⟨(by rw [hc1]; rfl), rfl, trivial⟩
 refine Zm ?_
 obtain ⟨J3, h, hR4⟩ := h
 refine GL.cut (α := Bool) 4 J3 (fun b2 => [(16, .bool b2), (0, sv p_s)]) ?_ ?_
 rcases h.em with ⟨hc5, h⟩ | ⟨hc5, h⟩
 refine Zk hc5 (Zk hc5 (Zk hc5 (Zt hc5 ?_)))
 exact Yj I3 true h
 refine Zu hc5 Ym ?_
 obtain ⟨c6, ha7, hb8, h⟩ := h
 refine Zu hc5 (OV.indexStr rfl rfl rfl ha7 hb8) (Zu hc5 (OV.ibin (v := .bool (decide (((c6.toNat : Int) : Int) < 97))) rfl rfl rfl) (Zn hc5 ?_))
 exact Yj I3 (decide (((c6.toNat : Int) : Int) < 97)) h
 intro b2 H9 h
 replace h := hR4 b2 H9 h
 refine Zm ?_
 obtain ⟨J11, h, hR12⟩ := h
 refine GL.cut (α := Bool) 4 J11 (fun b10 => [(21, .bool b10), (0, sv p_s)]) ?_ ?_
 rcases h.em with ⟨hc13, h⟩ | ⟨hc13, h⟩
 refine Zk hc13 (Zk hc13 (Zk hc13 (Zt hc13 ?_)))
 exact Yj I3 true h
 refine Zu hc13 Ym ?_
 obtain ⟨c14, ha15, hb16, h⟩ := h
 refine Zu hc13 (OV.indexStr rfl rfl rfl ha15 hb16) (Zu hc13 (OV.ibin (v := .bool (decide (((c14.toNat : Int) : Int) > 122))) rfl rfl rfl) (Zn hc13 ?_))
 exact Yj I3 (decide (((c14.toNat : Int) : Int) > 122)) h
 intro b10 H17 h
 replace h := hR12 b10 H17 h
 refine GL.nil (Yd h (fun hc18 h => ?_) fun hc18 h => ?_)
 refine Zo (Za (GL.nil ?_))
 exact Y1 I3 ⟨false, rfl, h⟩
 refine GC.skip (GC.seq (Zo (Zm (Zr (Zm (GL.nil (GC.block (Yp h (fun x19 => [(24, .int .i64 x19), (0, sv p_s), (23, .int .i64 (List.length p_s : Int))]) ?_))))))))
 intro x19 H21 J20 h
 refine Zo (Zi (.bool (decide ((x19 : Int) < (List.length p_s : Int)))) (GL.nil (GC.seq (Yd h (fun hc22 h => ?_) fun hc22 h => ?_))))
 refine GC.skip (GC.seq (GC.block (Zo (Zm (Za (GL.nil (Zo (Zm (Zm (Ys h fun c23 h => ?_))))))))))
 refine Za (GL.nil (Zo (Zm (Zi (.bool (decide (((c23.toNat : Int) : Int) ≥ 97))) (Zm (GL.cut0 3 [(35, .bool ((decide (((c23.toNat : Int) : Int) ≥ 97)) && (decide (((c23.toNat : Int) : Int) ≤ 122)))), (0, sv p_s), (4, .int .u8 (c23.toNat : Int)), (23, .int .i64 (List.length p_s : Int)), (24, .int .i64 x19)] ?_ ?_))))))
 rcases Zb (decide (((c23.toNat : Int) : Int) ≥ 97)) with hc26 | hc26
 refine Zu hc26 Ym (Zu hc26 (OV.ibin (v := .bool (decide (((c23.toNat : Int) : Int) ≤ 122))) rfl rfl rfl) (Zt hc26 ?_))
 exact GL.jump0 (fun _ _ h => h) () rfl ⟨(by rw [hc26]; rfl), rfl, rfl, rfl, rfl, trivial⟩
 refine Zk hc26 (Zk hc26 (Zn hc26 ?_))
 exact GL.jump0 (fun _ _ h => h) () rfl ⟨(by rw [hc26]; rfl), rfl, rfl, rfl, rfl, trivial⟩
 refine Zm (GL.cut0 7 [(43, .bool (((decide (((c23.toNat : Int) : Int) ≥ 97)) && (decide (((c23.toNat : Int) : Int) ≤ 122))) || ((decide (((c23.toNat : Int) : Int) ≥ 65)) && (decide (((c23.toNat : Int) : Int) ≤ 90))))), (0, sv p_s), (4, .int .u8 (c23.toNat : Int)), (23, .int .i64 (List.length p_s : Int)), (24, .int .i64 x19)] ?_ ?_)
 rcases Zb ((decide (((c23.toNat : Int) : Int) ≥ 97)) && (decide (((c23.toNat : Int) : Int) ≤ 122))) with hc27 | hc27
 refine Zk hc27 (Zk hc27 (Zk hc27 (GL.skip ⟨_, rfl, .inr rfl⟩ rfl (GL.skip ⟨_, rfl, .inr rfl⟩ rfl (Zk hc27 (Zt hc27 ?_))))))
 exact GL.jump0 (fun _ _ h => h) () rfl ⟨(by rw [hc27]; rfl), rfl, rfl, rfl, rfl, trivial⟩
 refine Zu hc27 Ym (Zu hc27 (OV.ibin (v := .bool (decide (((c23.toNat : Int) : Int) ≥ 65))) rfl rfl rfl) (Zu hc27 Ym (GL.cut0 3 [(42, .bool ((decide (((c23.toNat : Int) : Int) ≥ 65)) && (decide (((c23.toNat : Int) : Int) ≤ 90)))), (0, sv p_s), (4, .int .u8 (c23.toNat : Int)), (23, .int .i64 (List.length p_s : Int)), (24, .int .i64 x19), (36, .bool ((decide (((c23.toNat : Int) : Int) ≥ 97)) && (decide (((c23.toNat : Int) : Int) ≤ 122))))] ?_ ?_)))
 rcases Zb (decide (((c23.toNat : Int) : Int) ≥ 65)) with hc28 | hc28
 refine Zu hc28 Ym (Zu hc28 (OV.ibin (v := .bool (decide (((c23.toNat : Int) : Int) ≤ 90))) rfl rfl rfl) (Zu hc27 (OV.pickT rfl hc28 rfl) ?_))
 exact GL.jump0 (fun _ _ h => h) () rfl ⟨(by rw [hc28]; rfl), rfl, rfl, rfl, rfl, rfl, trivial⟩
 refine Zk hc28 (Zk hc28 (Zu hc27 (OV.pickF rfl hc28 rfl) ?_))
 exact GL.jump0 (fun _ _ h => h) () rfl ⟨(by rw [hc28]; rfl), rfl, rfl, rfl, rfl, rfl, trivial⟩
 refine Zn hc27 ?_
 exact GL.jump0 (fun _ _ h => h) () rfl ⟨(by rw [hc27]; rfl), rfl, rfl, rfl, rfl, trivial⟩
 refine Zm (GL.cut0 7 [(51, .bool ((((decide (((c23.toNat : Int) : Int) ≥ 97)) && (decide (((c23.toNat : Int) : Int) ≤ 122))) || ((decide (((c23.toNat : Int) : Int) ≥ 65)) && (decide (((c23.toNat : Int) : Int) ≤ 90)))) || ((decide (((c23.toNat : Int) : Int) ≥ 48)) && (decide (((c23.toNat : Int) : Int) ≤ 57))))), (0, sv p_s), (4, .int .u8 (c23.toNat : Int)), (23, .int .i64 (List.length p_s : Int)), (24, .int .i64 x19)] ?_ ?_)
 rcases Zb (((decide (((c23.toNat : Int) : Int) ≥ 97)) && (decide (((c23.toNat : Int) : Int) ≤ 122))) || ((decide (((c23.toNat : Int) : Int) ≥ 65)) && (decide (((c23.toNat : Int) : Int) ≤ 90)))) with hc29 | hc29
 refine Zk hc29 (Zk hc29 (Zk hc29 (GL.skip ⟨_, rfl, .inr rfl⟩ rfl (GL.skip ⟨_, rfl, .inr rfl⟩ rfl (Zk hc29 (Zt hc29 ?_))))))
 exact GL.jump0 (fun _ _ h => h) () rfl ⟨(by rw [hc29]; rfl), rfl, rfl, rfl, rfl, trivial⟩
 refine Zu hc29 Ym (Zu hc29 (OV.ibin (v := .bool (decide (((c23.toNat : Int) : Int) ≥ 48))) rfl rfl rfl) (Zu hc29 Ym (GL.cut0 3 [(50, .bool ((decide (((c23.toNat : Int) : Int) ≥ 48)) && (decide (((c23.toNat : Int) : Int) ≤ 57)))), (0, sv p_s), (4, .int .u8 (c23.toNat : Int)), (23, .int .i64 (List.length p_s : Int)), (24, .int .i64 x19), (44, .bool (((decide (((c23.toNat : Int) : Int) ≥ 97)) && (decide (((c23.toNat : Int) : Int) ≤ 122))) || ((decide (((c23.toNat : Int) : Int) ≥ 65)) && (decide (((c23.toNat : Int) : Int) ≤ 90)))))] ?_ ?_)))
 rcases Zb (decide (((c23.toNat : Int) : Int) ≥ 48)) with hc30 | hc30
 refine Zu hc30 Ym (Zu hc30 (OV.ibin (v := .bool (decide (((c23.toNat : Int) : Int) ≤ 57))) rfl rfl rfl) (Zu hc29 (OV.pickT rfl hc30 rfl) ?_))
 exact GL.jump0 (fun _ _ h => h) () rfl ⟨(by rw [hc30]; rfl), rfl, rfl, rfl, rfl, rfl, trivial⟩
 refine Zk hc30 (Zk hc30 (Zu hc29 (OV.pickF rfl hc30 rfl) ?_))
 exact GL.jump0 (fun _ _ h => h) () rfl ⟨(by rw [hc30]; rfl), rfl, rfl, rfl, rfl, rfl, trivial⟩
 refine Zn hc29 ?_
 exact GL.jump0 (fun _ _ h => h) () rfl ⟨(by rw [hc29]; rfl), rfl, rfl, rfl, rfl, trivial⟩
 refine Zm (GL.cut0 3 [(55, .bool (((((decide (((c23.toNat : Int) : Int) ≥ 97)) && (decide (((c23.toNat : Int) : Int) ≤ 122))) || ((decide (((c23.toNat : Int) : Int) ≥ 65)) && (decide (((c23.toNat : Int) : Int) ≤ 90)))) || ((decide (((c23.toNat : Int) : Int) ≥ 48)) && (decide (((c23.toNat : Int) : Int) ≤ 57)))) || (((c23.toNat : Int) : Int) == 95))), (0, sv p_s), (23, .int .i64 (List.length p_s : Int)), (24, .int .i64 x19)] ?_ ?_)
 rcases Zb ((((decide (((c23.toNat : Int) : Int) ≥ 97)) && (decide (((c23.toNat : Int) : Int) ≤ 122))) || ((decide (((c23.toNat : Int) : Int) ≥ 65)) && (decide (((c23.toNat : Int) : Int) ≤ 90)))) || ((decide (((c23.toNat : Int) : Int) ≥ 48)) && (decide (((c23.toNat : Int) : Int) ≤ 57)))) with hc31 | hc31
 refine Zk hc31 (Zk hc31 (Zt hc31 ?_))
 exact GL.jump0 (fun _ _ h => h) () rfl ⟨(by rw [hc31]; rfl), rfl, rfl, rfl, trivial⟩
 refine Zu hc31 Ym (Zu hc31 (OV.ibin (v := .bool (((c23.toNat : Int) : Int) == 95)) rfl rfl rfl) (Zn hc31 ?_))
 exact GL.jump0 (fun _ _ h => h) () rfl ⟨(by rw [hc31]; rfl), rfl, rfl, rfl, trivial⟩
 refine Zv (OV.not rfl) (GL.nil (Yd h (fun hc32 h => ?_) fun hc32 h => ?_))
 refine Zo (Za (GL.nil ?_))
 exact Y1 I3 ⟨false, rfl, h⟩
 refine GC.skip_to (fun _ _ h => h) (GC.region (Zi (.int .i64 (w .i64 (x19 + 1))) (Zm ?_)))
 exact Yj I3 (w .i64 (x19 + 1)) h
 refine GC.exit_to (fun _ _ h => h) (Zo (Za (GL.nil ?_)))
 exact Y1 I3 ⟨true, rfl, h⟩
def Qa0 (C : Ctx) (p_s : Sl) (K : Sl → Heap → Prop) (H : Heap) : Prop :=
 ift (Sl.isNil p_s)
 (K Sl.nil H)
 (nw ([]) (fun b2 H3 =>
 apS ([.int .u8 0]) 1 (Sl.of (some (b2, 0)) 0 0) p_s (fun r4 H5 =>
 K r4 H5) H3) H)
theorem QcT (C p_s K H) (h : Qa0 C p_s K H) : Qag C p_s K H := by
 refine Ye Tryz.func77 rfl Tryz.ntmps77 [(0, slv p_s)] (Zo (Za (GL.nil (GC.seq (Zo (Zm (Zv (OV.eqlSl (s := p_s) rfl rfl rfl) (GL.nil (Yd h (fun hc1 h => ?_) fun hc1 h => ?_)))))))))
 refine Zo (Za (GL.nil ?_))
 exact Y1 I3 ⟨Sl.nil, rfl, h⟩
 refine GC.skip (Zo (GL.buildSlice (cs := []) h trivial rfl (vs := []) rfl ⟨5, fun _ => by kernel_rfl⟩ ?_))
 intro b2 H3 h
 refine Zm (GL.appendS (s := (Sl.of (some (b2, 0)) 0 0)) (s2 := p_s) (zc := [.int .u8 0]) (bytes := 1) h trivial rfl rfl rfl ⟨⟨_, _, _, rfl, rfl, rfl, rfl, rfl, rfl⟩⟩ rfl ?_)
 intro r4 H5 h
 refine Za (GL.nil ?_)
 exact Y1 I3 ⟨r4, rfl, h⟩
def Qdj (C : Ctx) (p_p : Option (Nat × Nat)) (p_v : Qa) (K : Heap → Prop) (H : Heap) : Prop :=
 nw (Qa.c p_v) (fun b1 H2 =>
 ldI H2 .i64 ((b1, 0).1, (b1, 0).2 + 1) fun x3 =>
 nw ([.int .u8 (w .u8 x3)]) (fun b5 H6 =>
 Qk C p_p (Sl.of (some (b5, 0)) 1 1) (fun H7 =>
 K H7) H6) H2) H
theorem Qga (C p_p p_v K H) (h : Qdj C p_p p_v K H) : QbS C p_p p_v K H := by
 refine Ye Tryz.func78 rfl Tryz.ntmps78 [(0, pv p_p), (1, .agg (Qa.c p_v).toArray)] (Zo (GL.box (v := .agg (Qa.c p_v).toArray) (cs := Qa.c p_v) h trivial rfl rfl rfl ?_))
 intro b1 H2 h
 refine GL.nil (GC.region (Zm (Zf (Yl h fun x3 h => ?_))))
 refine Zv (OV.convInt rfl rfl rfl) (GL.buildSlice (cs := [.int .u8 (w .u8 x3)]) h trivial rfl (vs := [(0, .int .u8 (w .u8 x3))]) rfl ⟨5, fun _ => by kernel_rfl⟩ ?_)
 intro b5 H6 h
 refine Zc h Qq ?_
 rintro _ H7 ⟨rfl, h⟩
 exact GL.ends (fun _ _ hf hs => Qv rfl hf hs ⟨rfl, h⟩)
def Qdl (C : Ctx) (p_p : Option (Nat × Nat)) (p_v : Qa) (K : Heap → Prop) (H : Heap) : Prop :=
 nw (Qa.c p_v) (fun b1 H2 =>
 ldI H2 .i64 ((b1, 0).1, (b1, 0).2 + 1) fun x3 =>
 QcX C p_p x3 (fun H5 =>
 K H5) H2) H
theorem Qgc (C p_p p_v K H) (h : Qdl C p_p p_v K H) : QbT C p_p p_v K H := by
 refine Ye Tryz.func79 rfl Tryz.ntmps79 [(0, pv p_p), (1, .agg (Qa.c p_v).toArray)] (Zo (GL.box (v := .agg (Qa.c p_v).toArray) (cs := Qa.c p_v) h trivial rfl rfl rfl ?_))
 intro b1 H2 h
 refine GL.nil (GC.region (Zm (Zf (Yl h fun x3 h => ?_))))
 refine Zc h Qhq ?_
 rintro _ H5 ⟨rfl, h⟩
 exact GL.ends (fun _ _ hf hs => Qv rfl hf hs ⟨rfl, h⟩)
def Qel (C : Ctx) (p_p : Option (Nat × Nat)) (p_v : Qa) (K : Heap → Prop) (H : Heap) : Prop :=
 nw (Qa.c p_v) (fun b1 H2 =>
 ldS H2 ((b1, 0).1, (b1, 0).2 + 2) fun x3 =>
 Qba C x3 [45] (fun r5 r6 H7 =>
 Qae C p_p r6 (fun H8 =>
 nw ([.int .u8 128]) (fun b9 H10 =>
 Qk C p_p (Sl.of (some (b9, 0)) 1 1) (fun H11 =>
 QaO C p_p 0 (w .u64 (List.length r5 : Int)) (fun H12 =>
 s2b r5 (fun r13 H14 =>
 Qk C p_p r13 (fun H15 =>
 Qae C p_p r6 (fun H16 =>
 K H16) H15) H14) H12) H11) H10) H8) H7) H2) H
theorem Qg0 (C p_p p_v K H) (h : Qel C p_p p_v K H) : QcW C p_p p_v K H := by
 refine Ye Tryz.func80 rfl Tryz.ntmps80 [(0, pv p_p), (1, .agg (Qa.c p_v).toArray)] (Zo (GL.box (v := .agg (Qa.c p_v).toArray) (cs := Qa.c p_v) h trivial rfl rfl rfl ?_))
 intro b1 H2 h
 refine GL.nil (Zo (Zf (Yl h fun x3 h => ?_)))
 refine Zc h QeJ ?_
 rintro _ H7 ⟨r5, r6, rfl, h⟩
 refine Zm (Yv (sv r5) rfl rfl (Yv (.bool r6) rfl rfl (Za (Za (GL.nil (Zo (Zm (Zm (Zc h Qa4 ?_)))))))))
 rintro _ H8 ⟨rfl, h⟩
 refine GL.nil (Zo (Zm (GL.buildSlice (cs := [.int .u8 128]) h trivial rfl (vs := [(0, .int .u8 128)]) rfl ⟨5, fun _ => by kernel_rfl⟩ ?_)))
 intro b9 H10 h
 refine Zc h Qq ?_
 rintro _ H11 ⟨rfl, h⟩
 refine GL.nil (Zo (Zm (Zm (Zr (Zv (OV.convInt rfl rfl rfl) (Zc h Qcx ?_))))))
 rintro _ H12 ⟨rfl, h⟩
 refine GL.nil (Zo (Zm (Zm (GL.s2b (s := r5) h trivial rfl rfl rfl rfl rfl ?_))))
 intro r13 H14 h
 refine Zc h Qq ?_
 rintro _ H15 ⟨rfl, h⟩
 refine GL.nil (GC.region (Zm (Zm (Zc h Qa4 ?_))))
 rintro _ H16 ⟨rfl, h⟩
 exact GL.ends (fun _ _ hf hs => Qv rfl hf hs ⟨rfl, h⟩)
def Qdm (C : Ctx) (p_p : Option (Nat × Nat)) (p_v : Qa) (K : Heap → Prop) (H : Heap) : Prop :=
 nw (Qa.c p_v) (fun b1 H2 =>
 ldS H2 ((b1, 0).1, (b1, 0).2 + 2) fun x3 =>
 Qbo C p_p x3 (fun H5 =>
 K H5) H2) H
theorem Qgd (C p_p p_v K H) (h : Qdm C p_p p_v K H) : QbU C p_p p_v K H := by
 refine Ye Tryz.func81 rfl Tryz.ntmps81 [(0, pv p_p), (1, .agg (Qa.c p_v).toArray)] (Zo (GL.box (v := .agg (Qa.c p_v).toArray) (cs := Qa.c p_v) h trivial rfl rfl rfl ?_))
 intro b1 H2 h
 refine GL.nil (GC.region (Zm (Zf (Yl h fun x3 h => ?_))))
 refine Zc h QdZ ?_
 rintro _ H5 ⟨rfl, h⟩
 exact GL.ends (fun _ _ hf hs => Qv rfl hf hs ⟨rfl, h⟩)
def Qd4 (C : Ctx) (p_p : Option (Nat × Nat)) (p_v : Qa) (K : Heap → Prop) (H : Heap) : Prop :=
 nw (Qa.c p_v) (fun b1 H2 =>
 ldL H2 ((b1, 0).1, (b1, 0).2 + 3) fun x3 =>
 lp (α := Int) 0 H2 (fun x5 J6 H7 =>
 ift (decide ((x5 : Int) < (Sl.len x3 : Int)))
 (ixa x3 x5 fun p9 =>
 ldT H7 Qa.c (p9.1, p9.2 + (x5 : Int).toNat * 4) fun x14 =>
 nw (Qa.c Qa.zero) (fun b16 H17 =>
 stT (b16, 0) (Qa.c x14) (fun H18 =>
 nw ([.int .u8 1]) (fun b19 H20 =>
 Qk C p_p (Sl.of (some (b19, 0)) 1 1) (fun H21 =>
 ldT H21 Qa.c (b16, 0) fun x22 =>
 Qa3 C p_p x22 (fun H24 =>
 J6 (w .i64 (x5 + 1)) H24) H21) H20) H18) H17) H7)
 (nw ([.int .u8 0]) (fun b25 H26 =>
 Qk C p_p (Sl.of (some (b25, 0)) 1 1) (fun H27 =>
 K H27) H26) H7))) H
theorem QgI (C p_p p_v K H) (h : Qd4 C p_p p_v K H) : Qbn C p_p p_v K H := by
 refine Ye Tryz.func82 rfl Tryz.ntmps82 [(0, pv p_p), (1, .agg (Qa.c p_v).toArray)] (Zo (GL.box (v := .agg (Qa.c p_v).toArray) (cs := Qa.c p_v) h trivial rfl rfl rfl ?_))
 intro b1 H2 h
 refine GL.nil (GC.seq (Zo (Zf (Yl h fun x3 h => ?_))))
 refine Zq (Zm (GL.nil (GC.block (Yp h (fun x5 => [(9, .int .i64 x5), (0, pv p_p), (7, slv x3), (8, .int .i64 (Sl.len x3 : Int))]) ?_))))
 intro x5 H7 J6 h
 refine Zo (Zi (.bool (decide ((x5 : Int) < (Sl.len x3 : Int)))) (GL.nil (GC.seq (Yd h (fun hc8 h => ?_) fun hc8 h => ?_))))
 refine GC.skip (GC.seq (GC.block (Zo (Yx h fun p9 h => ?_))))
 obtain ⟨x14, v15, h⟩ := h
 refine Zv (OV.loadT rfl rfl rfl v15) (GL.alloc (cs := Qa.c Qa.zero) h trivial rfl rfl rfl ?_)
 intro b16 H17 h
 refine GL.storeT (p := (b16, 0)) (vs := Qa.c x14) h trivial rfl rfl rfl rfl ?_
 intro H18 h
 refine GL.nil (Zo (Zm (GL.buildSlice (cs := [.int .u8 1]) h trivial rfl (vs := [(0, .int .u8 1)]) rfl ⟨5, fun _ => by kernel_rfl⟩ ?_)))
 intro b19 H20 h
 refine Zc h Qq ?_
 rintro _ H21 ⟨rfl, h⟩
 refine GL.nil (GC.region (Zm ?_))
 obtain ⟨x22, v23, h⟩ := h
 refine Zv (OV.loadT rfl rfl rfl v23) (Zc h Qdg ?_)
 rintro _ H24 ⟨rfl, h⟩
 refine GL.nil_to (fun _ _ h => h) (GC.region (Zi (.int .i64 (w .i64 (x5 + 1))) (Zm ?_)))
 exact Yj I3 (w .i64 (x5 + 1)) h
 refine GC.exit_to (fun _ _ h => h) (GC.region (Zm (GL.buildSlice (cs := [.int .u8 0]) h trivial rfl (vs := [(0, .int .u8 0)]) rfl ⟨5, fun _ => by kernel_rfl⟩ ?_)))
 intro b25 H26 h
 refine Zc h Qq ?_
 rintro _ H27 ⟨rfl, h⟩
 exact GL.ends (fun _ _ hf hs => Qv rfl hf hs ⟨rfl, h⟩)
def Qd2 (C : Ctx) (p_p : Option (Nat × Nat)) (p_v : Qa) (K : Heap → Prop) (H : Heap) : Prop :=
 nw (Qa.c p_v) (fun b1 H2 =>
 ldS H2 ((b1, 0).1, (b1, 0).2 + 2) fun x3 =>
 Qbo C p_p x3 (fun H5 =>
 ldT H5 Qa.c (b1, 0) fun x6 =>
 Qbn C p_p x6 (fun H8 =>
 K H8) H5) H2) H
theorem QgG (C p_p p_v K H) (h : Qd2 C p_p p_v K H) : Qca C p_p p_v K H := by
 refine Ye Tryz.func83 rfl Tryz.ntmps83 [(0, pv p_p), (1, .agg (Qa.c p_v).toArray)] (Zo (GL.box (v := .agg (Qa.c p_v).toArray) (cs := Qa.c p_v) h trivial rfl rfl rfl ?_))
 intro b1 H2 h
 refine GL.nil (Zo (Zm (Zf (Yl h fun x3 h => ?_))))
 refine Zc h QdZ ?_
 rintro _ H5 ⟨rfl, h⟩
 refine GL.nil (GC.region (Zm ?_))
 obtain ⟨x6, v7, h⟩ := h
 refine Zv (OV.loadT rfl rfl rfl v7) (Zc h QdY ?_)
 rintro _ H8 ⟨rfl, h⟩
 exact GL.ends (fun _ _ hf hs => Qv rfl hf hs ⟨rfl, h⟩)
def Qen (C : Ctx) (p_p : Option (Nat × Nat)) (p_l : Sl) (K : Heap → Prop) (H : Heap) : Prop :=
 lp (α := Int) 0 H (fun x1 J2 H3 =>
 ift (decide ((x1 : Int) < (Sl.len p_l : Int)))
 (ixa p_l x1 fun p5 =>
 ldI H3 .u8 (p5.1, p5.2 + (x1 : Int).toNat * 1) fun x10 =>
 dr H3 fun Hs12 =>
 nck p_p fun p14 =>
 ldL Hs12 (p14.1, p14.2 + 0) fun x16 =>
 nck p_p fun p18 =>
 ldI Hs12 .u8 (p18.1, p18.2 + 1) fun x20 =>
 nw ([.int .u8 (bXor .u8 x10 x20)]) (fun b23 H24 =>
 Heap.le Hs12 H24 ∧
 apS ([.int .u8 0]) 1 x16 (Sl.of (some (b23, 0)) 1 1) (fun r26 H27 =>
 Heap.le Hs12 H27 ∧
 nck p_p fun p28 =>
 st (p28.1, p28.2 + 0) (slv r26) (fun H30 =>
 J2 (w .i64 (x1 + 1)) H30) H27) H24) H3)
 (K H3))
theorem Qg2 (C p_p p_l K H) (h : Qen C p_p p_l K H) : Qk C p_p p_l K H := by
 refine Ye Tryz.func84 rfl Tryz.ntmps84 [(0, pv p_p), (1, slv p_l)] (Zo (Zm (Zq (Zm (GL.nil (GC.block (Yp h (fun x1 => [(8, .int .i64 x1), (0, pv p_p), (6, slv p_l), (7, .int .i64 (Sl.len p_l : Int))]) ?_)))))))
 intro x1 H3 J2 h
 refine Zo (Zi (.bool (decide ((x1 : Int) < (Sl.len p_l : Int)))) (GL.nil (GC.seq (Yd h (fun hc4 h => ?_) fun hc4 h => ?_))))
 refine GC.skip (GC.seq (GC.block (Zo (Yx h fun p5 h => ?_))))
 refine Yl h fun x10 h => ?_
 refine Za (GL.nil ?_)
 obtain ⟨Hs12, hle13, h⟩ := h
 refine GC.tail (Hs := Hs12) 15 (by kernel_rfl) hle13 (by kernel_rfl) (Zy 0 rfl Ym (Zy 1 rfl Ym ?_))
 obtain ⟨p14, hp15, h⟩ := h
 refine Zy 2 rfl (OV.nilCheck (q := p_p) rfl hp15) (Zy 3 rfl Yf ?_)
 obtain ⟨x16, v17, h⟩ := h
 refine Zy 4 rfl (Yo v17) (Zy 5 rfl Ym (Zy 6 rfl Ym ?_))
 obtain ⟨p18, hp19, h⟩ := h
 refine Zy 7 rfl (OV.nilCheck (q := p_p) rfl hp19) (Zy 8 rfl Yf ?_)
 obtain ⟨x20, v21, h⟩ := h
 refine Zy 9 rfl (Yo v21) (Zy 10 rfl (OV.ibin (v := .int .u8 (bXor .u8 x10 x20)) rfl rfl rfl) (GT.eff 11 rfl (by kernel_rfl) rfl (GL.buildSlice (cs := [.int .u8 (bXor .u8 x10 x20)]) h trivial rfl (vs := [(0, .int .u8 (bXor .u8 x10 x20))]) rfl ⟨5, fun _ => by kernel_rfl⟩ ?_)))
 intro b23 H24 h
 obtain ⟨hle22, h⟩ := h
 refine GT.back hle22 (GT.eff 12 rfl (by kernel_rfl) rfl (GL.appendS (s := x16) (s2 := (Sl.of (some (b23, 0)) 1 1)) (zc := [.int .u8 0]) (bytes := 1) h trivial rfl rfl rfl ⟨⟨_, _, _, rfl, rfl, rfl, rfl, rfl, rfl⟩⟩ rfl ?_))
 intro r26 H27 h
 obtain ⟨hle25, h⟩ := h
 refine GT.back hle25 ?_
 obtain ⟨p28, hp29, h⟩ := h
 refine Zy 13 rfl (OV.nilCheck (q := p_p) rfl hp29) (Zy 14 rfl Yf (GT.done (by kernel_rfl) ?_))
 show GL _ _ _ _ _ [_] _ _
 refine GL.store (p := (p28.1, p28.2 + 0)) (v := slv r26) h trivial rfl rfl rfl rfl ?_
 intro H30 h
 refine GL.nil_to (fun _ _ h => h) (GC.region (Zi (.int .i64 (w .i64 (x1 + 1))) (Zm ?_)))
 exact Yj I3 (w .i64 (x1 + 1)) h
 exact GC.exit_ends (fun _ _ hf hs => Qv rfl hf hs ⟨rfl, h⟩)
def QcN (C : Ctx) (p_x : Int) (K : Int → Heap → Prop) (H : Heap) : Prop :=
 jn (α := Int × Int) (fun x2 H3 =>
 jn (α := Int × Int) (fun x7 H8 =>
 jn (α := Int × Int) (fun x12 H13 =>
 ixs [0, 1, 2, 2, 3, 3, 3, 3, 4, 4, 4, 4, 4, 4, 4, 4, 5, 5, 5, 5, 5, 5, 5, 5, 5, 5, 5, 5, 5, 5, 5, 5, 6, 6, 6, 6, 6, 6, 6, 6, 6, 6, 6, 6, 6, 6, 6, 6, 6, 6, 6, 6, 6, 6, 6, 6, 6, 6, 6, 6, 6, 6, 6, 6, 7, 7, 7, 7, 7, 7, 7, 7, 7, 7, 7, 7, 7, 7, 7, 7, 7, 7, 7, 7, 7, 7, 7, 7, 7, 7, 7, 7, 7, 7, 7, 7, 7, 7, 7, 7, 7, 7, 7, 7, 7, 7, 7, 7, 7, 7, 7, 7, 7, 7, 7, 7, 7, 7, 7, 7, 7, 7, 7, 7, 7, 7, 7, 7, 8, 8, 8, 8, 8, 8, 8, 8, 8, 8, 8, 8, 8, 8, 8, 8, 8, 8, 8, 8, 8, 8, 8, 8, 8, 8, 8, 8, 8, 8, 8, 8, 8, 8, 8, 8, 8, 8, 8, 8, 8, 8, 8, 8, 8, 8, 8, 8, 8, 8, 8, 8, 8, 8, 8, 8, 8, 8, 8, 8, 8, 8, 8, 8, 8, 8, 8, 8, 8, 8, 8, 8, 8, 8, 8, 8, 8, 8, 8, 8, 8, 8, 8, 8, 8, 8, 8, 8, 8, 8, 8, 8, 8, 8, 8, 8, 8, 8, 8, 8, 8, 8, 8, 8, 8, 8, 8, 8, 8, 8, 8, 8, 8, 8, 8, 8, 8, 8, 8, 8, 8, 8, 8, 8, 8, 8, 8, 8] (w .u8 x12.1) fun c16 =>
 K (w .i64 (x12.2 + (w .i64 (c16.toNat : Int)))) H13)
 (fun J11 => ift (decide ((x7.1 : Int) ≥ 256))
 (J11 ((sShr .u64 x7.1 8), (w .i64 (x7.2 + 8))) H8)
 (J11 (x7.1, x7.2) H8)))
 (fun J6 => ift (decide ((x2.1 : Int) ≥ 65536))
 (J6 ((sShr .u64 x2.1 16), (w .i64 (x2.2 + 16))) H3)
 (J6 (x2.1, x2.2) H3)))
 (fun J1 => ift (decide ((p_x : Int) ≥ 4294967296))
 (J1 ((sShr .u64 p_x 32), 32) H)
 (J1 (p_x, 0) H))
theorem Qfs (C p_x K H) (h : QcN C p_x K H) : QbB C p_x K H := by
 refine Ye Tryz.func100 rfl Tryz.ntmps100 [(0, .int .u64 p_x)] (Zo (Za (GL.nil ?_)))
 obtain ⟨J1, h, hR4⟩ := h
 refine GC.join (α := Int × Int) J1 (fun x2 => [(0, .int .u64 x2.1), (2, .int .i64 x2.2)]) ?_ ?_
 refine Zo (Zm (Zi (.bool (decide ((p_x : Int) ≥ 4294967296))) (GL.nil (Yd h (fun hc5 h => ?_) fun hc5 h => ?_))))
 refine Zo (Zm (Zv (OV.shr rfl rfl (by decide)) (Za (GL.nil (GC.region (Za ?_))))))
 exact Yj I3 ((sShr .u64 p_x 32), 32) h
 exact Yk I3 (p_x, 0) h
 intro x2 H3 h
 replace h := hR4 x2 H3 h
 obtain ⟨J6, h, hR9⟩ := h
 refine GC.join (α := Int × Int) J6 (fun x7 => [(0, .int .u64 x7.1), (2, .int .i64 x7.2)]) ?_ ?_
 refine Zo (Zm (Zi (.bool (decide ((x2.1 : Int) ≥ 65536))) (GL.nil (Yd h (fun hc10 h => ?_) fun hc10 h => ?_))))
 refine Zo (Zm (Zv (OV.shr rfl rfl (by decide)) (Za (GL.nil (GC.region (Zm (Zi (.int .i64 (w .i64 (x2.2 + 16))) (Za ?_))))))))
 exact Yj I3 ((sShr .u64 x2.1 16), (w .i64 (x2.2 + 16))) h
 exact Yk I3 (x2.1, x2.2) h
 intro x7 H8 h
 replace h := hR9 x7 H8 h
 obtain ⟨J11, h, hR14⟩ := h
 refine GC.join (α := Int × Int) J11 (fun x12 => [(0, .int .u64 x12.1), (2, .int .i64 x12.2)]) ?_ ?_
 refine Zo (Zm (Zi (.bool (decide ((x7.1 : Int) ≥ 256))) (GL.nil (Yd h (fun hc15 h => ?_) fun hc15 h => ?_))))
 refine Zo (Zm (Zv (OV.shr rfl rfl (by decide)) (Za (GL.nil (GC.region (Zm (Zi (.int .i64 (w .i64 (x7.2 + 8))) (Za ?_))))))))
 exact Yj I3 ((sShr .u64 x7.1 8), (w .i64 (x7.2 + 8))) h
 exact Yk I3 (x7.1, x7.2) h
 intro x12 H13 h
 replace h := hR14 x12 H13 h
 refine Zo (Zm (Zm (Zv (OV.convInt rfl rfl rfl) (Ys h fun c16 h => ?_))))
 refine Zv (OV.convInt rfl rfl rfl) (Zi (.int .i64 (w .i64 (x12.2 + (w .i64 (c16.toNat : Int))))) (Za (GL.nil ?_)))
 exact Y1 I3 ⟨(w .i64 (x12.2 + (w .i64 (c16.toNat : Int)))), rfl, h⟩
def QB (C : Ctx) (p_s : Sl) (p_f : Value) (K : Bool → Heap → Prop) (H : Heap) : Prop :=
 Qs C p_s p_f (fun r1 H2 =>
 K (decide ((r1 : Int) ≥ 0)) H2) H
theorem Qaq (C p_s p_f K H) (h : QB C p_s p_f K H) : Qn C p_s p_f K H := by
 refine Ye Tryz.func101 rfl Tryz.ntmps101 [(0, slv p_s), (1, p_f)] (Zo (Za (GL.nil (Zo (Zm (Zm (Zc h QaJ ?_)))))))
 rintro _ H2 ⟨r1, rfl, h⟩
 refine Zi (.bool (decide ((r1 : Int) ≥ 0))) (Za (GL.nil ?_))
 exact Y1 I3 ⟨(decide ((r1 : Int) ≥ 0)), rfl, h⟩
def Qe4 (C : Ctx) (p_v : Qa) (K : Bool → Heap → Prop) (H : Heap) : Prop :=
 nw (Qa.c p_v) (fun b1 H2 =>
 ldT H2 Qa.c (b1, 0) fun x3 =>
 QQ C x3 (fun r5 H6 =>
 K ((r5 : Int) != 0) H6) H2) H
theorem QhY (C p_v K H) (h : Qe4 C p_v K H) : Qao C p_v K H := by
 refine Ye Tryz.func102 rfl Tryz.ntmps102 [(0, .agg (Qa.c p_v).toArray)] (Zo (GL.box (v := .agg (Qa.c p_v).toArray) (cs := Qa.c p_v) h trivial rfl rfl rfl ?_))
 intro b1 H2 h
 refine Za (GL.nil (Zo ?_))
 obtain ⟨x3, v4, h⟩ := h
 refine Zv (OV.loadT rfl rfl rfl v4) (Zc h Qc9 ?_)
 rintro _ H6 ⟨r5, rfl, h⟩
 refine Zi (.bool ((r5 : Int) != 0)) (Za (GL.nil ?_))
 exact Y1 I3 ⟨((r5 : Int) != 0), rfl, h⟩
end
end Sx
end
