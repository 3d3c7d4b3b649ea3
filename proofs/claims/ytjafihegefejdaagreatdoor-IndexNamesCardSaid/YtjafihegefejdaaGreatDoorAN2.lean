/-
  Texts of this family, one behind the other: Sh1, Sh2, Sh, FmtI, SrtL, MapL.
-/
import Derived.Test.YtjafihegefejdaaGreatDoorAN1
import Derived.Test.YtjafihegefejdaaGreatDoorProg
import Derived.Shelf.Strconv.Itoa3
import Derived.Shelf.SlSortCmp.NoneTotal
import Derived.Shelf.SlMaps.Clone
noncomputable section
set_option linter.unusedVariables false
set_option linter.unusedSimpArgs false
set_option maxRecDepth 10000
namespace Sx
section
set_option maxRecDepth 100000
open Go Go.Proofs
structure Qa where
 Kind : Int
 N : Int
 S : Str
 L : Sl
def Qa.c (x : Qa) : List Value := [.int .u8 x.Kind, .int .i64 x.N, sv x.S, slv x.L]
def Qa.zero : Qa := ⟨0, 0, [], Sl.nil⟩
structure Qjs where
 L : Sl
structure Qj4 where
 Kind : Int
 Row : Sl
 Places : Sl
structure Qd where
 rows_ : Option Nat
 by_ : Option Nat
def Qd.c (x : Qd) : List Value := [mv x.rows_, mv x.by_]
structure Qo where
 places_ : Sl
 rows_ : Option Nat
def Qo.c (x : Qo) : List Value := [slv x.places_, mv x.rows_]
structure Qap where
 b_ : Sl
 turn_ : Int
def Qap.c (x : Qap) : List Value := [slv x.b_, .int .u8 x.turn_]
structure Qgb where
 lo_ : Int
 hi_ : Int
theorem Qgn : CallOk Tryz.prog 8 := ⟨⟨_, Tryz.func8, rfl, by decide +kernel⟩⟩
theorem Qhr : CallOk Tryz.prog 9 := ⟨⟨_, Tryz.func9, rfl, by decide +kernel⟩⟩
theorem Q4 : CallOk Tryz.prog 10 := ⟨⟨_, Tryz.func10, rfl, by decide +kernel⟩⟩
theorem Qp : CallOk Tryz.prog 11 := ⟨⟨_, Tryz.func11, rfl, by decide +kernel⟩⟩
theorem Qg4 : CallOk Tryz.prog 13 := ⟨⟨_, Tryz.func13, rfl, by decide +kernel⟩⟩
theorem Qdt : CallOk Tryz.prog 14 := ⟨⟨_, Tryz.func14, rfl, by decide +kernel⟩⟩
theorem Qch : CallOk Tryz.prog 16 := ⟨⟨_, Tryz.func16, rfl, by decide +kernel⟩⟩
theorem Q3 : CallOk Tryz.prog 17 := ⟨⟨_, Tryz.func17, rfl, by decide +kernel⟩⟩
theorem QaM : CallOk Tryz.prog 18 := ⟨⟨_, Tryz.func18, rfl, by decide +kernel⟩⟩
theorem Qcg : CallOk Tryz.prog 19 := ⟨⟨_, Tryz.func19, rfl, by decide +kernel⟩⟩
theorem Qci : CallOk Tryz.prog 20 := ⟨⟨_, Tryz.func20, rfl, by decide +kernel⟩⟩
theorem QbC : CallOk Tryz.prog 21 := ⟨⟨_, Tryz.func21, rfl, by decide +kernel⟩⟩
theorem Qi : CallOk Tryz.prog 22 := ⟨⟨_, Tryz.func22, rfl, by decide +kernel⟩⟩
theorem Qj : CallOk Tryz.prog 23 := ⟨⟨_, Tryz.func23, rfl, by decide +kernel⟩⟩
theorem Qen : CallOk Tryz.prog 24 := ⟨⟨_, Tryz.func24, rfl, by decide +kernel⟩⟩
theorem Qbu : CallOk Tryz.prog 32 := ⟨⟨_, Tryz.func32, rfl, by decide +kernel⟩⟩
theorem QcF : CallOk Tryz.prog 33 := ⟨⟨_, Tryz.func33, rfl, by decide +kernel⟩⟩
theorem QdI : CallOk Tryz.prog 34 := ⟨⟨_, Tryz.func34, rfl, by decide +kernel⟩⟩
theorem QfU : CallOk Tryz.prog 35 := ⟨⟨_, Tryz.func35, rfl, by decide +kernel⟩⟩
theorem QfV : CallOk Tryz.prog 36 := ⟨⟨_, Tryz.func36, rfl, by decide +kernel⟩⟩
theorem Qdf : CallOk Tryz.prog 37 := ⟨⟨_, Tryz.func37, rfl, by decide +kernel⟩⟩
theorem QeG : CallOk Tryz.prog 38 := ⟨⟨_, Tryz.func38, rfl, by decide +kernel⟩⟩
theorem Qd7 : CallOk Tryz.prog 42 := ⟨⟨_, Tryz.func42, rfl, by decide +kernel⟩⟩
theorem Qaz : CallOk Tryz.prog 43 := ⟨⟨_, Tryz.func43, rfl, by decide +kernel⟩⟩
theorem QcJ : CallOk Tryz.prog 45 := ⟨⟨_, Tryz.func45, rfl, by decide +kernel⟩⟩
theorem Qg3 : CallOk Tryz.prog 46 := ⟨⟨_, Tryz.func46, rfl, by decide +kernel⟩⟩
theorem Qhs : CallOk Tryz.prog 47 := ⟨⟨_, Tryz.func47, rfl, by decide +kernel⟩⟩
theorem Qdg : CallOk Tryz.prog 49 := ⟨⟨_, Tryz.func49, rfl, by decide +kernel⟩⟩
theorem QK : CallOk Tryz.prog 50 := ⟨⟨_, Tryz.func50, rfl, by decide +kernel⟩⟩
theorem QcH : CallOk Tryz.prog 51 := ⟨⟨_, Tryz.func51, rfl, by decide +kernel⟩⟩
theorem QaN : CallOk Tryz.prog 52 := ⟨⟨_, Tryz.func52, rfl, by decide +kernel⟩⟩
theorem Qfw : CallOk Tryz.prog 53 := ⟨⟨_, Tryz.func53, rfl, by decide +kernel⟩⟩
theorem Qd8 : CallOk Tryz.prog 59 := ⟨⟨_, Tryz.func59, rfl, by decide +kernel⟩⟩
theorem Qcj : CallOk Tryz.prog 60 := ⟨⟨_, Tryz.func60, rfl, by decide +kernel⟩⟩
theorem Qgm : CallOk Tryz.prog 61 := ⟨⟨_, Tryz.func61, rfl, by decide +kernel⟩⟩
theorem QcO : CallOk Tryz.prog 62 := ⟨⟨_, Tryz.func62, rfl, by decide +kernel⟩⟩
theorem Qau : CallOk Tryz.prog 64 := ⟨⟨_, Tryz.func64, rfl, by decide +kernel⟩⟩
theorem Qdh : CallOk Tryz.prog 65 := ⟨⟨_, Tryz.func65, rfl, by decide +kernel⟩⟩
theorem Qfe : CallOk Tryz.prog 68 := ⟨⟨_, Tryz.func68, rfl, by decide +kernel⟩⟩
theorem Qg5 : CallOk Tryz.prog 69 := ⟨⟨_, Tryz.func69, rfl, by decide +kernel⟩⟩
theorem QeK : CallOk Tryz.prog 70 := ⟨⟨_, Tryz.func70, rfl, by decide +kernel⟩⟩
theorem QfX : CallOk Tryz.prog 74 := ⟨⟨_, Tryz.func74, rfl, by decide +kernel⟩⟩
theorem Qgo : CallOk Tryz.prog 75 := ⟨⟨_, Tryz.func75, rfl, by decide +kernel⟩⟩
theorem QeJ : CallOk Tryz.prog 76 := ⟨⟨_, Tryz.func76, rfl, by decide +kernel⟩⟩
theorem QcG : CallOk Tryz.prog 77 := ⟨⟨_, Tryz.func77, rfl, by decide +kernel⟩⟩
theorem Qe2 : CallOk Tryz.prog 78 := ⟨⟨_, Tryz.func78, rfl, by decide +kernel⟩⟩
theorem Qe3 : CallOk Tryz.prog 79 := ⟨⟨_, Tryz.func79, rfl, by decide +kernel⟩⟩
theorem QfS : CallOk Tryz.prog 80 := ⟨⟨_, Tryz.func80, rfl, by decide +kernel⟩⟩
theorem Qe4 : CallOk Tryz.prog 81 := ⟨⟨_, Tryz.func81, rfl, by decide +kernel⟩⟩
theorem Qdr : CallOk Tryz.prog 82 := ⟨⟨_, Tryz.func82, rfl, by decide +kernel⟩⟩
theorem Qfv : CallOk Tryz.prog 83 := ⟨⟨_, Tryz.func83, rfl, by decide +kernel⟩⟩
theorem Qv : CallOk Tryz.prog 84 := ⟨⟨_, Tryz.func84, rfl, by decide +kernel⟩⟩
theorem QeH : CallOk Tryz.prog 100 := ⟨⟨_, Tryz.func100, rfl, by decide +kernel⟩⟩
theorem Qan : CallOk Tryz.prog 101 := ⟨⟨_, Tryz.func101, rfl, by decide +kernel⟩⟩
theorem Qgp : CallOk Tryz.prog 102 := ⟨⟨_, Tryz.func102, rfl, by decide +kernel⟩⟩
theorem QJ : CallOk Tryz.prog 103 := ⟨⟨_, Tryz.func103, rfl, by decide +kernel⟩⟩
theorem QfY : CallOk Tryz.prog 104 := ⟨⟨_, Tryz.func104, rfl, by decide +kernel⟩⟩
theorem Qe5 : CallOk Tryz.prog 105 := ⟨⟨_, Tryz.func105, rfl, by decide +kernel⟩⟩
theorem QdJ : CallOk Tryz.prog 109 := ⟨⟨_, Tryz.func109, rfl, by decide +kernel⟩⟩
theorem QfW : CallOk Tryz.prog 110 := ⟨⟨_, Tryz.func110, rfl, by decide +kernel⟩⟩
theorem QbU : CallOk Tryz.prog 111 := ⟨⟨_, Tryz.func111, rfl, by decide +kernel⟩⟩
theorem QfT : CallOk Tryz.prog 112 := ⟨⟨_, Tryz.func112, rfl, by decide +kernel⟩⟩
theorem Qd6 : CallOk Tryz.prog 113 := ⟨⟨_, Tryz.func113, rfl, by decide +kernel⟩⟩
theorem QaV : CallOk Tryz.prog 114 := ⟨⟨_, Tryz.func114, rfl, by decide +kernel⟩⟩
theorem Qcf : CallOk Tryz.prog 115 := ⟨⟨_, Tryz.func115, rfl, by decide +kernel⟩⟩
theorem Qds : CallOk Tryz.prog 116 := ⟨⟨_, Tryz.func116, rfl, by decide +kernel⟩⟩
theorem QaF : CallOk Tryz.prog 126 := ⟨⟨_, Tryz.func126, rfl, by decide +kernel⟩⟩
theorem Qd5 : CallOk Tryz.prog 127 := ⟨⟨_, Tryz.func127, rfl, by decide +kernel⟩⟩
theorem QeI : CallOk Tryz.prog 128 := ⟨⟨_, Tryz.func128, rfl, by decide +kernel⟩⟩
theorem QaE : CallOk Tryz.prog 129 := ⟨⟨_, Tryz.func129, rfl, by decide +kernel⟩⟩
theorem QeF : CallOk Tryz.prog 130 := ⟨⟨_, Tryz.func130, rfl, by decide +kernel⟩⟩
theorem Qd4 : CallOk Tryz.prog 131 := ⟨⟨_, Tryz.func131, rfl, by decide +kernel⟩⟩
theorem Qa6 : CallOk Tryz.prog 134 := ⟨⟨_, Tryz.func134, rfl, by decide +kernel⟩⟩
theorem Qdj : CallOk Tryz.prog 135 := ⟨⟨_, Tryz.func135, rfl, by decide +kernel⟩⟩
theorem QcQ : CallOk Tryz.prog 136 := ⟨⟨_, Tryz.func136, rfl, by decide +kernel⟩⟩
theorem Qdi : CallOk Tryz.prog 137 := ⟨⟨_, Tryz.func137, rfl, by decide +kernel⟩⟩
theorem QcP : CallOk Tryz.prog 138 := ⟨⟨_, Tryz.func138, rfl, by decide +kernel⟩⟩
theorem QcI : CallOk Tryz.prog 139 := ⟨⟨_, Tryz.func139, rfl, by decide +kernel⟩⟩
theorem Qb4 : CallOk Tryz.prog 140 := ⟨⟨_, Tryz.func140, rfl, by decide +kernel⟩⟩
theorem QbV : CallOk Tryz.prog 141 := ⟨⟨_, Tryz.func141, rfl, by decide +kernel⟩⟩
theorem QbB : CallOk Tryz.prog 142 := ⟨⟨_, Tryz.func142, rfl, by decide +kernel⟩⟩
theorem Qbg : CallOk Tryz.prog 143 := ⟨⟨_, Tryz.func143, rfl, by decide +kernel⟩⟩
theorem Qce : CallOk Tryz.prog 147 := ⟨⟨_, Tryz.func147, rfl, by decide +kernel⟩⟩
theorem QbD : CallOk Tryz.prog 148 := ⟨⟨_, Tryz.func148, rfl, by decide +kernel⟩⟩
theorem QeE : CallOk Tryz.prog 149 := ⟨⟨_, Tryz.func149, rfl, by decide +kernel⟩⟩
theorem QbS : CallOk Tryz.prog 150 := ⟨⟨_, Tryz.func150, rfl, by decide +kernel⟩⟩
theorem Qcd : CallOk Tryz.prog 151 := ⟨⟨_, Tryz.func151, rfl, by decide +kernel⟩⟩
theorem QF : CallOk Tryz.prog 152 := ⟨⟨_, Tryz.func152, rfl, by decide +kernel⟩⟩
theorem Qav : CallOk Tryz.prog 153 := ⟨⟨_, Tryz.func153, rfl, by decide +kernel⟩⟩
theorem Q5 : CallOk Tryz.prog 157 := ⟨⟨_, Tryz.func157, rfl, by decide +kernel⟩⟩
theorem QbT : CallOk Tryz.prog 159 := ⟨⟨_, Tryz.func159, rfl, by decide +kernel⟩⟩
theorem Qas : CallOk Tryz.prog 160 := ⟨⟨_, Tryz.func160, rfl, by decide +kernel⟩⟩
theorem Qdq : CallOk Tryz.prog 161 := ⟨⟨_, Tryz.func161, rfl, by decide +kernel⟩⟩
theorem QcE : ExtOk Tryz.prog 89 Extern.AbiNoEscape.same := ⟨⟨_, Tryz.func89, by kernel_rfl, by kernel_rfl, by kernel_rfl, by kernel_rfl⟩⟩
theorem Qbp : ExtOk Tryz.prog 90 (Extern.BytealgMakeNoZero.makeNoZero #[3] #[79]) := ⟨⟨_, Tryz.func90, by kernel_rfl, by kernel_rfl, by kernel_rfl, by kernel_rfl⟩⟩
theorem QaQ : ExtOk Tryz.prog 165 Extern.BytealgIndexByte.indexByte := ⟨⟨_, Tryz.func165, by kernel_rfl, by kernel_rfl, by kernel_rfl, by kernel_rfl⟩⟩
abbrev tyB : TypeId := 84
abbrev tyE : TypeId := 5
abbrev Bd (bs : Str) : GO := .bld tyB tyE bs
def Q0 (C : Ctx) (K : Bool → Heap → Prop) (H : Heap) : Prop :=
 Spec Tryz.prog C 5 [] H (fun v H2 => ∃ (r0 : Bool), v = .bool r0 ∧ K r0 H2)
def Qc8 (C : Ctx) (K : Bool → Heap → Prop) (H : Heap) : Prop :=
 Spec Tryz.prog C 8 [] H (fun v H2 => ∃ (r0 : Bool), v = .bool r0 ∧ K r0 H2)
def Qc7 (C : Ctx) (K : Option (Nat × Nat) → Heap → Prop) (H : Heap) : Prop :=
 Spec Tryz.prog C 9 [] H (fun v H2 => ∃ (r0 : Option (Nat × Nat)), v = pv r0 ∧ K r0 H2)
def Qr (C : Ctx) (p_x : Option (Nat × Nat)) (p_l : Sl) (K : Bool → Int → Heap → Prop) (H : Heap) : Prop :=
 Spec Tryz.prog C 10 [pv p_x, slv p_l] H (fun v H2 => ∃ (r0 : Bool) (r1 : Int), v = .tuple #[.bool r0, .int .i64 r1] ∧ K r0 r1 H2)
def Qe (C : Ctx) (p_x : Option (Nat × Nat)) (p_places : Sl) (p_values : Sl) (K : Sl → Int → Heap → Prop) (H : Heap) : Prop :=
 Spec Tryz.prog C 11 [pv p_x, slv p_places, slv p_values] H (fun v H2 => ∃ (r0 : Sl) (r1 : Int), v = .tuple #[slv r0, .int .i64 r1] ∧ K r0 r1 H2)
def Q1 (C : Ctx) (p_a : Qa) (p_b : Qa) (K : Bool → Heap → Prop) (H : Heap) : Prop :=
 Spec Tryz.prog C 13 [.agg (Qa.c p_a).toArray, .agg (Qa.c p_b).toArray] H (fun v H2 => ∃ (r0 : Bool), v = .bool r0 ∧ K r0 H2)
theorem Q1.gh {C : Ctx} {p_a : Qa} {p_b : Qa} {K : Bool → Heap → Prop} {H : Heap} (h : Q1 C p_a p_b (fun r0 H2 => ∃ H0, Gh C H2 H0 ∧ K r0 H0) H) : Q1 C p_a p_b K H :=
 Spec.gh (Spec.mono h fun _ H2 ⟨r0, hv, H0, hg, hk⟩ => ⟨H0, hg, r0, hv, hk⟩)
def QaD (C : Ctx) (p_a : Sl) (p_b : Sl) (K : Bool → Heap → Prop) (H : Heap) : Prop :=
 Spec Tryz.prog C 14 [slv p_a, slv p_b] H (fun v H2 => ∃ (r0 : Bool), v = .bool r0 ∧ K r0 H2)
def QS (C : Ctx) (p_x : Option (Nat × Nat)) (p_l : Sl) (K : Bool → Heap → Prop) (H : Heap) : Prop :=
 Spec Tryz.prog C 16 [pv p_x, slv p_l] H (fun v H2 => ∃ (r0 : Bool), v = .bool r0 ∧ K r0 H2)
def Qw (C : Ctx) (p_x : Option (Nat × Nat)) (p_l : Sl) (K : Bool → Int → Heap → Prop) (H : Heap) : Prop :=
 Spec Tryz.prog C 17 [pv p_x, slv p_l] H (fun v H2 => ∃ (r0 : Bool) (r1 : Int), v = .tuple #[.bool r0, .int .i64 r1] ∧ K r0 r1 H2)
def QX (C : Ctx) (p_a : Sl) (p_b : Sl) (K : Bool → Heap → Prop) (H : Heap) : Prop :=
 Spec Tryz.prog C 18 [slv p_a, slv p_b] H (fun v H2 => ∃ (r0 : Bool), v = .bool r0 ∧ K r0 H2)
def QR (C : Ctx) (p_x : Option (Nat × Nat)) (K : Sl → Heap → Prop) (H : Heap) : Prop :=
 Spec Tryz.prog C 19 [pv p_x] H (fun v H2 => ∃ (r0 : Sl), v = slv r0 ∧ K r0 H2)
def QT (C : Ctx) (p_x : Option (Nat × Nat)) (K : Int → Heap → Prop) (H : Heap) : Prop :=
 Spec Tryz.prog C 20 [pv p_x] H (fun v H2 => ∃ (r0 : Int), v = .int .i64 r0 ∧ K r0 H2)
def QaB (C : Ctx) (K : Option (Nat × Nat) → Heap → Prop) (H : Heap) : Prop :=
 Spec Tryz.prog C 21 [] H (fun v H2 => ∃ (r0 : Option (Nat × Nat)), v = pv r0 ∧ K r0 H2)
def Qf (C : Ctx) (p_n : Int) (K : Qa → Heap → Prop) (H : Heap) : Prop :=
 Spec Tryz.prog C 22 [.int .i64 p_n] H (fun v H2 => ∃ (r0 : Qa), v = .agg (Qa.c r0).toArray ∧ K r0 H2)
theorem Qf.gh {C : Ctx} {p_n : Int} {K : Qa → Heap → Prop} {H : Heap} (h : Qf C p_n (fun r0 H2 => ∃ H0, Gh C H2 H0 ∧ K r0 H0) H) : Qf C p_n K H :=
 Spec.gh (Spec.mono h fun _ H2 ⟨r0, hv, H0, hg, hk⟩ => ⟨H0, hg, r0, hv, hk⟩)
def Qg (C : Ctx) (p_s : Str) (K : Qa → Heap → Prop) (H : Heap) : Prop :=
 Spec Tryz.prog C 23 [sv p_s] H (fun v H2 => ∃ (r0 : Qa), v = .agg (Qa.c r0).toArray ∧ K r0 H2)
theorem Qg.gh {C : Ctx} {p_s : Str} {K : Qa → Heap → Prop} {H : Heap} (h : Qg C p_s (fun r0 H2 => ∃ H0, Gh C H2 H0 ∧ K r0 H0) H) : Qg C p_s K H :=
 Spec.gh (Spec.mono h fun _ H2 ⟨r0, hv, H0, hg, hk⟩ => ⟨H0, hg, r0, hv, hk⟩)
def Qbd (C : Ctx) (p_x : Option (Nat × Nat)) (K : Option (Nat × Nat) → Heap → Prop) (H : Heap) : Prop :=
 Spec Tryz.prog C 24 [pv p_x] H (fun v H2 => ∃ (r0 : Option (Nat × Nat)), v = pv r0 ∧ K r0 H2)
def QaY (C : Ctx) (p_l : Sl) (K : Str → Bool → Heap → Prop) (H : Heap) : Prop :=
 Spec Tryz.prog C 32 [slv p_l] H (fun v H2 => ∃ (r0 : Str) (r1 : Bool), v = .tuple #[sv r0, .bool r1] ∧ K r0 r1 H2)
def QY (C : Ctx) (p_l : Sl) (K : Sl → Heap → Prop) (H : Heap) : Prop :=
 Spec Tryz.prog C 33 [slv p_l] H (fun v H2 => ∃ (r0 : Sl), v = slv r0 ∧ K r0 H2)
def Q9 (C : Ctx) (p_b : Option (Nat × Nat)) (p_k : Str) (p_l : Sl) (K : Heap → Prop) (H : Heap) : Prop :=
 Spec Tryz.prog C 34 [pv p_b, sv p_k, slv p_l] H (fun v H2 => v = .tuple #[] ∧ K H2)
def Qaq (C : Ctx) (p_i : Int) (K : Str → Heap → Prop) (H : Heap) : Prop :=
 Spec Tryz.prog C 35 [.int .i64 p_i] H (fun v H2 => ∃ (r0 : Str), v = sv r0 ∧ K r0 H2)
theorem Qaq.gh {C : Ctx} {p_i : Int} {K : Str → Heap → Prop} {H : Heap} (h : Qaq C p_i (fun r0 H2 => ∃ H0, Gh C H2 H0 ∧ K r0 H0) H) : Qaq C p_i K H :=
 Spec.gh (Spec.mono h fun _ H2 ⟨r0, hv, H0, hg, hk⟩ => ⟨H0, hg, r0, hv, hk⟩)
def QcB (C : Ctx) (p_elems : Sl) (p_sep : Str) (K : Str → Heap → Prop) (H : Heap) : Prop :=
 Spec Tryz.prog C 36 [slv p_elems, sv p_sep] H (fun v H2 => ∃ (r0 : Str), v = sv r0 ∧ K r0 H2)
def QV (C : Ctx) (p_s : Sl) (K : Sl → Heap → Prop) (H : Heap) : Prop :=
 Spec Tryz.prog C 37 [slv p_s] H (fun v H2 => ∃ (r0 : Sl), v = slv r0 ∧ K r0 H2)
def Qag (C : Ctx) (p_r : Option Nat) (K : Sl → Heap → Prop) (H : Heap) : Prop :=
 Spec Tryz.prog C 38 [mv p_r] H (fun v H2 => ∃ (r0 : Sl), v = slv r0 ∧ K r0 H2)
def Qbe (C : Ctx) (p_b : Option (Nat × Nat)) (p_l : Sl) (K : Str → Bool → Heap → Prop) (H : Heap) : Prop :=
 Spec Tryz.prog C 42 [pv p_b, slv p_l] H (fun v H2 => ∃ (r0 : Str) (r1 : Bool), v = .tuple #[sv r0, .bool r1] ∧ K r0 r1 H2)
def QaC (C : Ctx) (p_m : Option Nat) (K : Option Nat → Heap → Prop) (H : Heap) : Prop :=
 Spec Tryz.prog C 43 [mv p_m] H (fun v H2 => ∃ (r0 : Option Nat), v = mv r0 ∧ K r0 H2)
def QP (C : Ctx) (p_v : Qa) (K : Int → Heap → Prop) (H : Heap) : Prop :=
 Spec Tryz.prog C 45 [.agg (Qa.c p_v).toArray] H (fun v H2 => ∃ (r0 : Int), v = .int .i64 r0 ∧ K r0 H2)
theorem QP.gh {C : Ctx} {p_v : Qa} {K : Int → Heap → Prop} {H : Heap} (h : QP C p_v (fun r0 H2 => ∃ H0, Gh C H2 H0 ∧ K r0 H0) H) : QP C p_v K H :=
 Spec.gh (Spec.mono h fun _ H2 ⟨r0, hv, H0, hg, hk⟩ => ⟨H0, hg, r0, hv, hk⟩)
def QdF (C : Ctx) (p_b : Sl) (p_v : Qa) (K : Sl → Heap → Prop) (H : Heap) : Prop :=
 Spec Tryz.prog C 46 [slv p_b, .agg (Qa.c p_v).toArray] H (fun v H2 => ∃ (r0 : Sl), v = slv r0 ∧ K r0 H2)
def QaZ (C : Ctx) (p_v : Qa) (K : Qa → Heap → Prop) (H : Heap) : Prop :=
 Spec Tryz.prog C 47 [.agg (Qa.c p_v).toArray] H (fun v H2 => ∃ (r0 : Qa), v = .agg (Qa.c r0).toArray ∧ K r0 H2)
theorem QaZ.gh {C : Ctx} {p_v : Qa} {K : Qa → Heap → Prop} {H : Heap} (h : QaZ C p_v (fun r0 H2 => ∃ H0, Gh C H2 H0 ∧ K r0 H0) H) : QaZ C p_v K H :=
 Spec.gh (Spec.mono h fun _ H2 ⟨r0, hv, H0, hg, hk⟩ => ⟨H0, hg, r0, hv, hk⟩)
def Qt (C : Ctx) (p_b : Option (Nat × Nat)) (p_n : Int) (K : Heap → Prop) (H : Heap) : Prop :=
 Spec Tryz.prog C 49 [pv p_b, .int .i64 p_n] H (fun v H2 => v = .tuple #[] ∧ K H2)
theorem Qt.gh {C : Ctx} {p_b : Option (Nat × Nat)} {p_n : Int} {K : Heap → Prop} {H : Heap} (h : Qt C p_b p_n (fun  H2 => ∃ H0, Gh C H2 H0 ∧ K  H0) H) : Qt C p_b p_n K H :=
 Spec.gh (Spec.mono h fun _ H2 ⟨hv, H0, hg, hk⟩ => ⟨H0, hg, hv, hk⟩)
def Qc (C : Ctx) (p_b : Option (Nat × Nat)) (p_s : Str) (K : Int → Value → Heap → Prop) (H : Heap) : Prop :=
 Spec Tryz.prog C 50 [pv p_b, sv p_s] H (fun v H2 => ∃ (r0 : Int) (r1 : Value), v = .tuple #[.int .i64 r0, r1] ∧ K r0 r1 H2)
theorem Qc.gh {C : Ctx} {p_b : Option (Nat × Nat)} {p_s : Str} {K : Int → Value → Heap → Prop} {H : Heap} (h : Qc C p_b p_s (fun r0 r1 H2 => ∃ H0, Gh C H2 H0 ∧ K r0 r1 H0) H) : Qc C p_b p_s K H :=
 Spec.gh (Spec.mono h fun _ H2 ⟨r0, r1, hv, H0, hg, hk⟩ => ⟨H0, hg, r0, r1, hv, hk⟩)
def Qm (C : Ctx) (p_b : Option (Nat × Nat)) (K : Str → Heap → Prop) (H : Heap) : Prop :=
 Spec Tryz.prog C 51 [pv p_b] H (fun v H2 => ∃ (r0 : Str), v = sv r0 ∧ K r0 H2)
theorem Qm.gh {C : Ctx} {p_b : Option (Nat × Nat)} {K : Str → Heap → Prop} {H : Heap} (h : Qm C p_b (fun r0 H2 => ∃ H0, Gh C H2 H0 ∧ K r0 H0) H) : Qm C p_b K H :=
 Spec.gh (Spec.mono h fun _ H2 ⟨r0, hv, H0, hg, hk⟩ => ⟨H0, hg, r0, hv, hk⟩)
def QN (C : Ctx) (p_x : Sl) (p_cmp : Value) (K : Heap → Prop) (H : Heap) : Prop :=
 Spec Tryz.prog C 52 [slv p_x, p_cmp] H (fun v H2 => v = .tuple #[] ∧ K H2)
def QbP (C : Ctx) (p_a : Sl) (p_b : Sl) (K : Int → Heap → Prop) (H : Heap) : Prop :=
 Spec Tryz.prog C 53 [slv p_a, slv p_b] H (fun v H2 => ∃ (r0 : Int), v = .int .i64 r0 ∧ K r0 H2)
def QQ (C : Ctx) (p_v : Qa) (p_most : Int) (K : Int → Heap → Prop) (H : Heap) : Prop :=
 Spec Tryz.prog C 59 [.agg (Qa.c p_v).toArray, .int .i64 p_most] H (fun v H2 => ∃ (r0 : Int), v = .int .i64 r0 ∧ K r0 H2)
theorem QQ.gh {C : Ctx} {p_v : Qa} {p_most : Int} {K : Int → Heap → Prop} {H : Heap} (h : QQ C p_v p_most (fun r0 H2 => ∃ H0, Gh C H2 H0 ∧ K r0 H0) H) : QQ C p_v p_most K H :=
 Spec.gh (Spec.mono h fun _ H2 ⟨r0, hv, H0, hg, hk⟩ => ⟨H0, hg, r0, hv, hk⟩)
def Qy (C : Ctx) (p_v : Qa) (K : Bool → Bool → Heap → Prop) (H : Heap) : Prop :=
 Spec Tryz.prog C 60 [.agg (Qa.c p_v).toArray] H (fun v H2 => ∃ (r0 : Bool) (r1 : Bool), v = .tuple #[.bool r0, .bool r1] ∧ K r0 r1 H2)
theorem Qy.gh {C : Ctx} {p_v : Qa} {K : Bool → Bool → Heap → Prop} {H : Heap} (h : Qy C p_v (fun r0 r1 H2 => ∃ H0, Gh C H2 H0 ∧ K r0 r1 H0) H) : Qy C p_v K H :=
 Spec.gh (Spec.mono h fun _ H2 ⟨r0, r1, hv, H0, hg, hk⟩ => ⟨H0, hg, r0, r1, hv, hk⟩)
def Qc6 (C : Ctx) (p_b : Sl) (K : Option (Nat × Nat) → Heap → Prop) (H : Heap) : Prop :=
 Spec Tryz.prog C 61 [slv p_b] H (fun v H2 => ∃ (r0 : Option (Nat × Nat)), v = pv r0 ∧ K r0 H2)
def QaU (C : Ctx) (p_p : Option (Nat × Nat)) (p_v : Qa) (K : Heap → Prop) (H : Heap) : Prop :=
 Spec Tryz.prog C 62 [pv p_p, .agg (Qa.c p_v).toArray] H (fun v H2 => v = .tuple #[] ∧ K H2)
def QD (C : Ctx) (p_b : Option (Nat × Nat)) (K : Heap → Prop) (H : Heap) : Prop :=
 Spec Tryz.prog C 64 [pv p_b] H (fun v H2 => v = .tuple #[] ∧ K H2)
def QA (C : Ctx) (p_b : Option (Nat × Nat)) (p_n : Int) (K : Heap → Prop) (H : Heap) : Prop :=
 Spec Tryz.prog C 65 [pv p_b, .int .i64 p_n] H (fun v H2 => v = .tuple #[] ∧ K H2)
theorem QA.gh {C : Ctx} {p_b : Option (Nat × Nat)} {p_n : Int} {K : Heap → Prop} {H : Heap} (h : QA C p_b p_n (fun  H2 => ∃ H0, Gh C H2 H0 ∧ K  H0) H) : QA C p_b p_n K H :=
 Spec.gh (Spec.mono h fun _ H2 ⟨hv, H0, hg, hk⟩ => ⟨H0, hg, hv, hk⟩)
def Qdb (C : Ctx) (p_l : Sl) (K : Bool → Heap → Prop) (H : Heap) : Prop :=
 Spec Tryz.prog C 68 [slv p_l] H (fun v H2 => ∃ (r0 : Bool), v = .bool r0 ∧ K r0 H2)
def QdG (C : Ctx) (p_a : Bool) (p_b : Bool) (K : Int → Heap → Prop) (H : Heap) : Prop :=
 Spec Tryz.prog C 69 [.bool p_a, .bool p_b] H (fun v H2 => ∃ (r0 : Int), v = .int .i64 r0 ∧ K r0 H2)
def Qbt (C : Ctx) (p_a : Sl) (p_b : Sl) (K : Int → Heap → Prop) (H : Heap) : Prop :=
 Spec Tryz.prog C 70 [slv p_a, slv p_b] H (fun v H2 => ∃ (r0 : Int), v = .int .i64 r0 ∧ K r0 H2)
def QcD (C : Ctx) (p_s : Str) (K : Int → Bool → Heap → Prop) (H : Heap) : Prop :=
 Spec Tryz.prog C 74 [sv p_s] H (fun v H2 => ∃ (r0 : Int) (r1 : Bool), v = .tuple #[.int .i64 r0, .bool r1] ∧ K r0 r1 H2)
def Qc9 (C : Ctx) (p_s : Str) (p_sep : Str) (K : Str → Str → Bool → Heap → Prop) (H : Heap) : Prop :=
 Spec Tryz.prog C 75 [sv p_s, sv p_sep] H (fun v H2 => ∃ (r0 : Str) (r1 : Str) (r2 : Bool), v = .tuple #[sv r0, sv r1, .bool r2] ∧ K r0 r1 r2 H2)
def Qa2 (C : Ctx) (p_s : Str) (K : Bool → Heap → Prop) (H : Heap) : Prop :=
 Spec Tryz.prog C 76 [sv p_s] H (fun v H2 => ∃ (r0 : Bool), v = .bool r0 ∧ K r0 H2)
def Qae (C : Ctx) (p_s : Sl) (K : Sl → Heap → Prop) (H : Heap) : Prop :=
 Spec Tryz.prog C 77 [slv p_s] H (fun v H2 => ∃ (r0 : Sl), v = slv r0 ∧ K r0 H2)
def Qby (C : Ctx) (p_p : Option (Nat × Nat)) (p_v : Qa) (K : Heap → Prop) (H : Heap) : Prop :=
 Spec Tryz.prog C 78 [pv p_p, .agg (Qa.c p_v).toArray] H (fun v H2 => v = .tuple #[] ∧ K H2)
def Qbz (C : Ctx) (p_p : Option (Nat × Nat)) (p_v : Qa) (K : Heap → Prop) (H : Heap) : Prop :=
 Spec Tryz.prog C 79 [pv p_p, .agg (Qa.c p_v).toArray] H (fun v H2 => v = .tuple #[] ∧ K H2)
def Qcz (C : Ctx) (p_p : Option (Nat × Nat)) (p_v : Qa) (K : Heap → Prop) (H : Heap) : Prop :=
 Spec Tryz.prog C 80 [pv p_p, .agg (Qa.c p_v).toArray] H (fun v H2 => v = .tuple #[] ∧ K H2)
def QbA (C : Ctx) (p_p : Option (Nat × Nat)) (p_v : Qa) (K : Heap → Prop) (H : Heap) : Prop :=
 Spec Tryz.prog C 81 [pv p_p, .agg (Qa.c p_v).toArray] H (fun v H2 => v = .tuple #[] ∧ K H2)
def Qbb (C : Ctx) (p_p : Option (Nat × Nat)) (p_v : Qa) (K : Heap → Prop) (H : Heap) : Prop :=
 Spec Tryz.prog C 82 [pv p_p, .agg (Qa.c p_v).toArray] H (fun v H2 => v = .tuple #[] ∧ K H2)
def QbO (C : Ctx) (p_p : Option (Nat × Nat)) (p_v : Qa) (K : Heap → Prop) (H : Heap) : Prop :=
 Spec Tryz.prog C 83 [pv p_p, .agg (Qa.c p_v).toArray] H (fun v H2 => v = .tuple #[] ∧ K H2)
def Qn (C : Ctx) (p_p : Option (Nat × Nat)) (p_l : Sl) (K : Heap → Prop) (H : Heap) : Prop :=
 Spec Tryz.prog C 84 [pv p_p, slv p_l] H (fun v H2 => v = .tuple #[] ∧ K H2)
def Qbo (C : Ctx) (p_x : Int) (K : Int → Heap → Prop) (H : Heap) : Prop :=
 Spec Tryz.prog C 100 [.int .u64 p_x] H (fun v H2 => ∃ (r0 : Int), v = .int .i64 r0 ∧ K r0 H2)
def Qs (C : Ctx) (p_s : Sl) (p_f : Value) (K : Bool → Heap → Prop) (H : Heap) : Prop :=
 Spec Tryz.prog C 101 [slv p_s, p_f] H (fun v H2 => ∃ (r0 : Bool), v = .bool r0 ∧ K r0 H2)
def Qak (C : Ctx) (p_v : Qa) (K : Bool → Heap → Prop) (H : Heap) : Prop :=
 Spec Tryz.prog C 102 [.agg (Qa.c p_v).toArray] H (fun v H2 => ∃ (r0 : Bool), v = .bool r0 ∧ K r0 H2)
theorem Qak.gh {C : Ctx} {p_v : Qa} {K : Bool → Heap → Prop} {H : Heap} (h : Qak C p_v (fun r0 H2 => ∃ H0, Gh C H2 H0 ∧ K r0 H0) H) : Qak C p_v K H :=
 Spec.gh (Spec.mono h fun _ H2 ⟨r0, hv, H0, hg, hk⟩ => ⟨H0, hg, r0, hv, hk⟩)
def Qb (C : Ctx) (p_s1 : Sl) (p_s2 : Sl) (p_cmp : Value) (K : Int → Heap → Prop) (H : Heap) : Prop :=
 Spec Tryz.prog C 103 [slv p_s1, slv p_s2, p_cmp] H (fun v H2 => ∃ (r0 : Int), v = .int .i64 r0 ∧ K r0 H2)
theorem Qb.gh {C : Ctx} {p_s1 : Sl} {p_s2 : Sl} {p_cmp : Value} {K : Int → Heap → Prop} {H : Heap} (h : Qb C p_s1 p_s2 p_cmp (fun r0 H2 => ∃ H0, Gh C H2 H0 ∧ K r0 H0) H) : Qb C p_s1 p_s2 p_cmp K H :=
 Spec.gh (Spec.mono h fun _ H2 ⟨r0, hv, H0, hg, hk⟩ => ⟨H0, hg, r0, hv, hk⟩)
def Qar (C : Ctx) (p_x : Qa) (p_y : Qa) (K : Int → Heap → Prop) (H : Heap) : Prop :=
 Spec Tryz.prog C 104 [.agg (Qa.c p_x).toArray, .agg (Qa.c p_y).toArray] H (fun v H2 => ∃ (r0 : Int), v = .int .i64 r0 ∧ K r0 H2)
theorem Qar.gh {C : Ctx} {p_x : Qa} {p_y : Qa} {K : Int → Heap → Prop} {H : Heap} (h : Qar C p_x p_y (fun r0 H2 => ∃ H0, Gh C H2 H0 ∧ K r0 H0) H) : Qar C p_x p_y K H :=
 Spec.gh (Spec.mono h fun _ H2 ⟨r0, hv, H0, hg, hk⟩ => ⟨H0, hg, r0, hv, hk⟩)
def QB (C : Ctx) (p_v : Qa) (p_w : Qa) (K : Int → Heap → Prop) (H : Heap) : Prop :=
 Spec Tryz.prog C 105 [.agg (Qa.c p_v).toArray, .agg (Qa.c p_w).toArray] H (fun v H2 => ∃ (r0 : Int), v = .int .i64 r0 ∧ K r0 H2)
theorem QB.gh {C : Ctx} {p_v : Qa} {p_w : Qa} {K : Int → Heap → Prop} {H : Heap} (h : QB C p_v p_w (fun r0 H2 => ∃ H0, Gh C H2 H0 ∧ K r0 H0) H) : QB C p_v p_w K H :=
 Spec.gh (Spec.mono h fun _ H2 ⟨r0, hv, H0, hg, hk⟩ => ⟨H0, hg, r0, hv, hk⟩)
def QaP (C : Ctx) (p_s : Str) (p_prefix : Str) (K : Str → Heap → Prop) (H : Heap) : Prop :=
 Spec Tryz.prog C 109 [sv p_s, sv p_prefix] H (fun v H2 => ∃ (r0 : Str), v = sv r0 ∧ K r0 H2)
def Qaa (C : Ctx) (p_s : Str) (p_cutset : Str) (K : Str → Heap → Prop) (H : Heap) : Prop :=
 Spec Tryz.prog C 110 [sv p_s, sv p_cutset] H (fun v H2 => ∃ (r0 : Str), v = sv r0 ∧ K r0 H2)
theorem Qaa.gh {C : Ctx} {p_s : Str} {p_cutset : Str} {K : Str → Heap → Prop} {H : Heap} (h : Qaa C p_s p_cutset (fun r0 H2 => ∃ H0, Gh C H2 H0 ∧ K r0 H0) H) : Qaa C p_s p_cutset K H :=
 Spec.gh (Spec.mono h fun _ H2 ⟨r0, hv, H0, hg, hk⟩ => ⟨H0, hg, r0, hv, hk⟩)
def QaO (C : Ctx) (p_s : Str) (p_sep : Str) (K : Str → Str → Bool → Heap → Prop) (H : Heap) : Prop :=
 Spec Tryz.prog C 111 [sv p_s, sv p_sep] H (fun v H2 => ∃ (r0 : Str) (r1 : Str) (r2 : Bool), v = .tuple #[sv r0, sv r1, .bool r2] ∧ K r0 r1 r2 H2)
def QcA (C : Ctx) (p_p : Option (Nat × Nat)) (p_n : Int) (K : Heap → Prop) (H : Heap) : Prop :=
 Spec Tryz.prog C 112 [pv p_p, .int .i64 p_n] H (fun v H2 => v = .tuple #[] ∧ K H2)
def Qa0 (C : Ctx) (p_s : Str) (p_prefix : Str) (K : Str → Bool → Heap → Prop) (H : Heap) : Prop :=
 Spec Tryz.prog C 113 [sv p_s, sv p_prefix] H (fun v H2 => ∃ (r0 : Str) (r1 : Bool), v = .tuple #[sv r0, .bool r1] ∧ K r0 r1 H2)
def Qad (C : Ctx) (p_p : Option (Nat × Nat)) (p_is : Bool) (K : Heap → Prop) (H : Heap) : Prop :=
 Spec Tryz.prog C 114 [pv p_p, .bool p_is] H (fun v H2 => v = .tuple #[] ∧ K H2)
def QaL (C : Ctx) (p_p : Option (Nat × Nat)) (p_first : Int) (p_u : Int) (K : Heap → Prop) (H : Heap) : Prop :=
 Spec Tryz.prog C 115 [pv p_p, .int .u8 p_first, .int .u64 p_u] H (fun v H2 => v = .tuple #[] ∧ K H2)
def Qbc (C : Ctx) (p_p : Option (Nat × Nat)) (p_s : Str) (K : Heap → Prop) (H : Heap) : Prop :=
 Spec Tryz.prog C 116 [pv p_p, sv p_s] H (fun v H2 => v = .tuple #[] ∧ K H2)
def Qx (C : Ctx) (p_s : Sl) (p_f : Value) (K : Int → Heap → Prop) (H : Heap) : Prop :=
 Spec Tryz.prog C 126 [slv p_s, p_f] H (fun v H2 => ∃ (r0 : Int), v = .int .i64 r0 ∧ K r0 H2)
def QaX (C : Ctx) (p_x : Int) (p_y : Int) (K : Int → Heap → Prop) (H : Heap) : Prop :=
 Spec Tryz.prog C 127 [.int .u8 p_x, .int .u8 p_y] H (fun v H2 => ∃ (r0 : Int), v = .int .i64 r0 ∧ K r0 H2)
def Q2 (C : Ctx) (p_a : Str) (p_b : Str) (K : Int → Heap → Prop) (H : Heap) : Prop :=
 Spec Tryz.prog C 128 [sv p_a, sv p_b] H (fun v H2 => ∃ (r0 : Int), v = .int .i64 r0 ∧ K r0 H2)
theorem Q2.gh {C : Ctx} {p_a : Str} {p_b : Str} {K : Int → Heap → Prop} {H : Heap} (h : Q2 C p_a p_b (fun r0 H2 => ∃ H0, Gh C H2 H0 ∧ K r0 H0) H) : Q2 C p_a p_b K H :=
 Spec.gh (Spec.mono h fun _ H2 ⟨r0, hv, H0, hg, hk⟩ => ⟨H0, hg, r0, hv, hk⟩)
def QM (C : Ctx) (p_x : Str) (p_y : Str) (K : Int → Heap → Prop) (H : Heap) : Prop :=
 Spec Tryz.prog C 129 [sv p_x, sv p_y] H (fun v H2 => ∃ (r0 : Int), v = .int .i64 r0 ∧ K r0 H2)
def Qca (C : Ctx) (p_vals : Sl) (K : Int → Heap → Prop) (H : Heap) : Prop :=
 Spec Tryz.prog C 130 [slv p_vals] H (fun v H2 => ∃ (r0 : Int), v = .int .i64 r0 ∧ K r0 H2)
def QaW (C : Ctx) (p_x : Int) (p_y : Int) (K : Int → Heap → Prop) (H : Heap) : Prop :=
 Spec Tryz.prog C 131 [.int .i64 p_x, .int .i64 p_y] H (fun v H2 => ∃ (r0 : Int), v = .int .i64 r0 ∧ K r0 H2)
def QZ (C : Ctx) (p_s : Str) (p_prefix : Str) (K : Str → Heap → Prop) (H : Heap) : Prop :=
 Spec Tryz.prog C 134 [sv p_s, sv p_prefix] H (fun v H2 => ∃ (r0 : Str), v = sv r0 ∧ K r0 H2)
def QdC (C : Ctx) (p_s : Str) (p_c : Int) (K : Str → Heap → Prop) (H : Heap) : Prop :=
 Spec Tryz.prog C 135 [sv p_s, .int .u8 p_c] H (fun v H2 => ∃ (r0 : Str), v = sv r0 ∧ K r0 H2)
def Qda (C : Ctx) (p_s : Str) (p_c : Int) (K : Str → Heap → Prop) (H : Heap) : Prop :=
 Spec Tryz.prog C 136 [sv p_s, .int .u8 p_c] H (fun v H2 => ∃ (r0 : Str), v = sv r0 ∧ K r0 H2)
def Qu (C : Ctx) (p_chars : Str) (K : List Value → Bool → Heap → Prop) (H : Heap) : Prop :=
 Spec Tryz.prog C 137 [sv p_chars] H (fun v H2 => ∃ (r0 : List Value) (r1 : Bool), v = .tuple #[.agg (List.toArray r0), .bool r1] ∧ K r0 r1 H2)
theorem Qu.gh {C : Ctx} {p_chars : Str} {K : List Value → Bool → Heap → Prop} {H : Heap} (h : Qu C p_chars (fun r0 r1 H2 => ∃ H0, Gh C H2 H0 ∧ K r0 r1 H0) H) : Qu C p_chars K H :=
 Spec.gh (Spec.mono h fun _ H2 ⟨r0, r1, hv, H0, hg, hk⟩ => ⟨H0, hg, r0, r1, hv, hk⟩)
def Qaj (C : Ctx) (p_s : Str) (p_as : Option (Nat × Nat)) (K : Str → Heap → Prop) (H : Heap) : Prop :=
 Spec Tryz.prog C 138 [sv p_s, pv p_as] H (fun v H2 => ∃ (r0 : Str), v = sv r0 ∧ K r0 H2)
def Qaf (C : Ctx) (p_s : Str) (p_as : Option (Nat × Nat)) (K : Str → Heap → Prop) (H : Heap) : Prop :=
 Spec Tryz.prog C 139 [sv p_s, pv p_as] H (fun v H2 => ∃ (r0 : Str), v = sv r0 ∧ K r0 H2)
def QcC (C : Ctx) (p_s : Str) (p_cutset : Str) (K : Str → Heap → Prop) (H : Heap) : Prop :=
 Spec Tryz.prog C 140 [sv p_s, sv p_cutset] H (fun v H2 => ∃ (r0 : Str), v = sv r0 ∧ K r0 H2)
def Qb3 (C : Ctx) (p_s : Str) (p_cutset : Str) (K : Str → Heap → Prop) (H : Heap) : Prop :=
 Spec Tryz.prog C 141 [sv p_s, sv p_cutset] H (fun v H2 => ∃ (r0 : Str), v = sv r0 ∧ K r0 H2)
def QO (C : Ctx) (p_s : Str) (p_substr : Str) (K : Int → Heap → Prop) (H : Heap) : Prop :=
 Spec Tryz.prog C 142 [sv p_s, sv p_substr] H (fun v H2 => ∃ (r0 : Int), v = .int .i64 r0 ∧ K r0 H2)
def Qab (C : Ctx) (p_s : Str) (p_prefix : Str) (K : Str → Bool → Heap → Prop) (H : Heap) : Prop :=
 Spec Tryz.prog C 143 [sv p_s, sv p_prefix] H (fun v H2 => ∃ (r0 : Str) (r1 : Bool), v = .tuple #[sv r0, .bool r1] ∧ K r0 r1 H2)
def QaK (C : Ctx) (p_x : Int) (K : Bool → Heap → Prop) (H : Heap) : Prop :=
 Spec Tryz.prog C 147 [.int .u8 p_x] H (fun v H2 => ∃ (r0 : Bool), v = .bool r0 ∧ K r0 H2)
def Qai (C : Ctx) (p_s : Str) (p_prefix : Str) (K : Bool → Heap → Prop) (H : Heap) : Prop :=
 Spec Tryz.prog C 148 [sv p_s, sv p_prefix] H (fun v H2 => ∃ (r0 : Bool), v = .bool r0 ∧ K r0 H2)
def Qbn (C : Ctx) (p_x : Int) (p_y : Int) (K : Int → Heap → Prop) (H : Heap) : Prop :=
 Spec Tryz.prog C 149 [.int .i64 p_x, .int .i64 p_y] H (fun v H2 => ∃ (r0 : Int), v = .int .i64 r0 ∧ K r0 H2)
def Qat (C : Ctx) (p_x : Str) (K : Bool → Heap → Prop) (H : Heap) : Prop :=
 Spec Tryz.prog C 150 [sv p_x] H (fun v H2 => ∃ (r0 : Bool), v = .bool r0 ∧ K r0 H2)
def QaJ (C : Ctx) (p_x : Int) (K : Bool → Heap → Prop) (H : Heap) : Prop :=
 Spec Tryz.prog C 151 [.int .i64 p_x] H (fun v H2 => ∃ (r0 : Bool), v = .bool r0 ∧ K r0 H2)
def Qk (C : Ctx) (p_s : Str) (p_prefix : Str) (K : Bool → Heap → Prop) (H : Heap) : Prop :=
 Spec Tryz.prog C 152 [sv p_s, sv p_prefix] H (fun v H2 => ∃ (r0 : Bool), v = .bool r0 ∧ K r0 H2)
def QE (C : Ctx) (p_as : Option (Nat × Nat)) (p_c : Int) (K : Bool → Heap → Prop) (H : Heap) : Prop :=
 Spec Tryz.prog C 153 [pv p_as, .int .u8 p_c] H (fun v H2 => ∃ (r0 : Bool), v = .bool r0 ∧ K r0 H2)
def QI (C : Ctx) (p_s : Str) (p_c : Int) (K : Int → Heap → Prop) (H : Heap) : Prop :=
 Spec Tryz.prog C 157 [sv p_s, .int .u8 p_c] H (fun v H2 => ∃ (r0 : Int), v = .int .i64 r0 ∧ K r0 H2)
def Qb2 (C : Ctx) (p_n : Int) (K : Int → Heap → Prop) (H : Heap) : Prop :=
 Spec Tryz.prog C 159 [.int .i64 p_n] H (fun v H2 => ∃ (r0 : Int), v = .int .i64 r0 ∧ K r0 H2)
def Qay (C : Ctx) (p_s : Str) (p_sep : Str) (K : Int → Heap → Prop) (H : Heap) : Prop :=
 Spec Tryz.prog C 160 [sv p_s, sv p_sep] H (fun v H2 => ∃ (r0 : Int), v = .int .i64 r0 ∧ K r0 H2)
def Qba (C : Ctx) (p_x : Int) (K : Bool → Heap → Prop) (H : Heap) : Prop :=
 Spec Tryz.prog C 161 [.int .i64 p_x] H (fun v H2 => ∃ (r0 : Bool), v = .bool r0 ∧ K r0 H2)
def Qb1 (C : Ctx) (K : Bool → Heap → Prop) (H : Heap) : Prop :=
 Qc8 C (fun r1 H2 =>
 ift (cond (cond (cond (!r1) true false) true false) true false)
 (K false H2)
 (QaB C (fun r4 H5 =>
 Qf C 1 (fun r6 H7 =>
 nw ((Qa.c r6) ++ []) (fun b8 H9 =>
 Qw C r4 (Sl.of (some (b8, 0)) 1 1) (fun r10 r11 H12 =>
 Qf C 1 (fun r13 H14 =>
 nw ((Qa.c r13) ++ []) (fun b15 H16 =>
 Qw C r4 (Sl.of (some (b15, 0)) 1 1) (fun r17 r18 H19 =>
 nw ([.int .i64 0]) (fun b20 H21 =>
 Qe C r4 (Sl.of (some (b20, 0)) 1 1) Sl.nil (fun r22 r23 H24 =>
 nw ((Qa.c (⟨0, 0, [], Sl.nil⟩ : Qa)) ++ []) (fun b25 H26 =>
 Qr C r4 (Sl.of (some (b25, 0)) 1 1) (fun r27 r28 H29 =>
 nw ((Qa.c (⟨0, 0, [], Sl.nil⟩ : Qa)) ++ []) (fun b30 H31 =>
 Qw C r4 (Sl.of (some (b30, 0)) 1 1) (fun r32 r33 H34 =>
 Qe C r4 Sl.nil Sl.nil (fun r35 r36 H37 =>
 Qr C r4 Sl.nil (fun r38 r39 H40 =>
 nw ([.int .i64 0]) (fun b41 H42 =>
 nw ((Qa.c (⟨0, 0, [], Sl.nil⟩ : Qa)) ++ []) (fun b43 H44 =>
 Qe C r4 (Sl.of (some (b41, 0)) 1 1) (Sl.of (some (b43, 0)) 1 1) (fun r45 r46 H47 =>
 QaB C (fun r48 H49 =>
 nw ([.int .i64 1]) (fun b50 H51 =>
 Qg C [97] (fun r52 H53 =>
 nw ((Qa.c r52) ++ []) (fun b54 H55 =>
 Qe C r48 (Sl.of (some (b50, 0)) 1 1) (Sl.of (some (b54, 0)) 1 1) (fun r56 r57 H58 =>
 ixa (Sl.of (some (b50, 0)) 1 1) 0 fun p59 =>
 st (p59.1, p59.2 + (0 : Int).toNat * 1) (.int .i64 0) (fun H64 =>
 Qf C 3 (fun r65 H66 =>
 Qg C [97] (fun r67 H68 =>
 nw ((Qa.c r65) ++ (Qa.c r67) ++ []) (fun b69 H70 =>
 Qr C r48 (Sl.of (some (b69, 0)) 2 2) (fun r71 r72 H73 =>
 Qf C 1 (fun r74 H75 =>
 Qg C [97] (fun r76 H77 =>
 nw ((Qa.c r74) ++ (Qa.c r76) ++ []) (fun b78 H79 =>
 Qw C r48 (Sl.of (some (b78, 0)) 2 2) (fun r80 r81 H82 =>
 nw ([.int .i64 1]) (fun b83 H84 =>
 Qg C [97] (fun r85 H86 =>
 nw ((Qa.c r85) ++ []) (fun b87 H88 =>
 Qe C r48 (Sl.of (some (b83, 0)) 1 1) (Sl.of (some (b87, 0)) 1 1) (fun r89 r90 H91 =>
 jn (α := Bool) (fun b92 H112 =>
 ift b92
 (K false H112)
 (Qr C none Sl.nil (fun r114 r115 H116 =>
 Qw C none Sl.nil (fun r117 r118 H119 =>
 Qe C none Sl.nil Sl.nil (fun r120 r121 H122 =>
 jn (α := Bool) (fun b131 H137 =>
 jn (α := Bool) (fun b143 H149 =>
 jn (α := Bool) (fun b150 H158 =>
 jn (α := Bool) (fun b159 H165 =>
 K b159 H165)
 (fun J160 => ift b150
 (Qbd C none (fun r163 H164 =>
 J160 (Option.isNone r163) H164) H158)
 (J160 false H158)))
 (fun J151 => ift b143
 (QT C none (fun r154 H155 =>
 QR C none (fun r156 H157 =>
 J151 (((w .i64 (r154 + (Sl.len r156 : Int))) : Int) == 0) H157) H155) H149)
 (J151 false H149)))
 (fun J144 => ift (((((b131 && (((Sl.len r45 : Int) : Int) == 0)) && ((r46 : Int) == 0)) && ((r115 : Int) == 2)) && ((r118 : Int) == 2)) && ((r121 : Int) == 2))
 (QS C none Sl.nil (fun r147 H148 =>
 J144 (!r147) H148) H137)
 (J144 false H137)))
 (fun J132 => ift ((((((((r10 && (!r17)) && ((r23 : Int) == 1)) && ((r28 : Int) == 4)) && ((r33 : Int) == 4)) && ((r36 : Int) == 0)) && (((Sl.len r35 : Int) : Int) == 3)) && r38) && ((r39 : Int) == 0))
 (QS C r4 Sl.nil (fun r135 H136 =>
 J132 r135 H136) H122)
 (J132 false H122))) H119) H116) H112))
 (fun J93 => ift (((Sl.len r56 : Int) : Int) != 2)
 (J93 true H91)
 (Qf C 2 (fun r96 H97 =>
 Qg C [97] (fun r98 H99 =>
 nw ((Qa.c r96) ++ (Qa.c r98) ++ []) (fun b100 H101 =>
 Qf C 3 (fun r102 H103 =>
 Qg C [97] (fun r104 H105 =>
 nw ((Qa.c r102) ++ (Qa.c r104) ++ []) (fun b106 H107 =>
 nw ([slv (Sl.of (some (b100, 0)) 2 2), slv (Sl.of (some (b106, 0)) 2 2)]) (fun b108 H109 =>
 QX C r89 (Sl.of (some (b108, 0)) 2 2) (fun r110 H111 =>
 J93 (!r110) H111) H109) H107) H105) H103) H101) H99) H97) H91))) H88) H86) H84) H82) H79) H77) H75) H73) H70) H68) H66) H64) H58) H55) H53) H51) H49) H47) H44) H42) H40) H37) H34) H31) H29) H26) H24) H21) H19) H16) H14) H12) H9) H7) H5) H2)) H
theorem Qel (C : Ctx) (K : Bool → Heap → Prop) (H : Heap) (h : Qb1 C  K H) : Q0 C  K H := by
 refine Spec.enter Tryz.func5 rfl Tryz.ntmps5 rfl (GC.sub [] trivial (Zo (Za (GL.nil (GC.seq (Zo (Zc h Qgn ?_)))))))
 rintro _ H2 ⟨r1, rfl, h⟩
 refine Zv (OV.not rfl) (Zm (Zv (OV.pickB rfl rfl rfl) (Zm (Zv (OV.pickB rfl rfl rfl) (Zm (Zv (OV.pickB rfl rfl rfl) (GL.nil (Yd h (fun u3 h => ?_) fun u3 h => ?_))))))))
 refine Zo (Za (GL.nil ?_))
 exact Y1 I3 ⟨false, rfl, h⟩
 refine GC.skip (Zo (Zc h QbC ?_))
 rintro _ H5 ⟨r4, rfl, h⟩
 refine Za (GL.nil (Zo (Zm (Zc h Qi ?_))))
 rintro _ H7 ⟨r6, rfl, h⟩
 refine GL.buildSlice (cs := (Qa.c r6) ++ []) h trivial rfl (vs := [(0, .agg (Qa.c r6).toArray)]) rfl ⟨36, fun _ => by kernel_rfl⟩ ?_
 intro b8 H9 h
 refine Zc h Q3 ?_
 rintro _ H12 ⟨r10, r11, rfl, h⟩
 refine Zm (Yv (.bool r10) rfl rfl (Yv (.int .i64 r11) rfl rfl (Za (Za (GL.nil (Zo (Zm (Zc h Qi ?_))))))))
 rintro _ H14 ⟨r13, rfl, h⟩
 refine GL.buildSlice (cs := (Qa.c r13) ++ []) h trivial rfl (vs := [(0, .agg (Qa.c r13).toArray)]) rfl ⟨36, fun _ => by kernel_rfl⟩ ?_
 intro b15 H16 h
 refine Zc h Q3 ?_
 rintro _ H19 ⟨r17, r18, rfl, h⟩
 refine Zm (Yv (.bool r17) rfl rfl (Yv (.int .i64 r18) rfl rfl (Za (Za (GL.nil (Zo (Zm (GL.buildSlice (cs := [.int .i64 0]) h trivial rfl (vs := [(0, .int .i64 0)]) rfl ⟨3, fun _ => by kernel_rfl⟩ ?_))))))))
 intro b20 H21 h
 refine Zc h Qp ?_
 rintro _ H24 ⟨r22, r23, rfl, h⟩
 refine Zm (Yv (slv r22) rfl rfl (Yv (.int .i64 r23) rfl rfl (Za (Za (GL.nil (Zo (Zm (Zv (OV.build (vs := []) (v := .agg (Qa.c (⟨0, 0, [], Sl.nil⟩ : Qa)).toArray) rfl (fun _ => by kernel_rfl)) (GL.buildSlice (cs := (Qa.c (⟨0, 0, [], Sl.nil⟩ : Qa)) ++ []) h trivial rfl (vs := [(0, .agg (Qa.c (⟨0, 0, [], Sl.nil⟩ : Qa)).toArray)]) rfl ⟨36, fun _ => by kernel_rfl⟩ ?_)))))))))
 intro b25 H26 h
 refine Zc h Q4 ?_
 rintro _ H29 ⟨r27, r28, rfl, h⟩
 refine Zm (Yv (.bool r27) rfl rfl (Yv (.int .i64 r28) rfl rfl (Za (Za (GL.nil (Zo (Zm (Zv (OV.build (vs := []) (v := .agg (Qa.c (⟨0, 0, [], Sl.nil⟩ : Qa)).toArray) rfl (fun _ => by kernel_rfl)) (GL.buildSlice (cs := (Qa.c (⟨0, 0, [], Sl.nil⟩ : Qa)) ++ []) h trivial rfl (vs := [(0, .agg (Qa.c (⟨0, 0, [], Sl.nil⟩ : Qa)).toArray)]) rfl ⟨36, fun _ => by kernel_rfl⟩ ?_)))))))))
 intro b30 H31 h
 refine Zc h Q3 ?_
 rintro _ H34 ⟨r32, r33, rfl, h⟩
 refine Zm (Yv (.bool r32) rfl rfl (Yv (.int .i64 r33) rfl rfl (Za (Za (GL.nil (Zo (Zm (Zc h Qp ?_))))))))
 rintro _ H37 ⟨r35, r36, rfl, h⟩
 refine Zm (Yv (slv r35) rfl rfl (Yv (.int .i64 r36) rfl rfl (Za (Za (GL.nil (Zo (Zm (Zc h Q4 ?_))))))))
 rintro _ H40 ⟨r38, r39, rfl, h⟩
 refine Zm (Yv (.bool r38) rfl rfl (Yv (.int .i64 r39) rfl rfl (Za (Za (GL.nil (Zo (Zm (GL.buildSlice (cs := [.int .i64 0]) h trivial rfl (vs := [(0, .int .i64 0)]) rfl ⟨3, fun _ => by kernel_rfl⟩ ?_))))))))
 intro b41 H42 h
 refine Zv (OV.build (vs := []) (v := .agg (Qa.c (⟨0, 0, [], Sl.nil⟩ : Qa)).toArray) rfl (fun _ => by kernel_rfl)) (GL.buildSlice (cs := (Qa.c (⟨0, 0, [], Sl.nil⟩ : Qa)) ++ []) h trivial rfl (vs := [(0, .agg (Qa.c (⟨0, 0, [], Sl.nil⟩ : Qa)).toArray)]) rfl ⟨36, fun _ => by kernel_rfl⟩ ?_)
 intro b43 H44 h
 refine Zc h Qp ?_
 rintro _ H47 ⟨r45, r46, rfl, h⟩
 refine Zm (Yv (slv r45) rfl rfl (Yv (.int .i64 r46) rfl rfl (Za (Za (GL.nil (Zo (Zc h QbC ?_)))))))
 rintro _ H49 ⟨r48, rfl, h⟩
 refine Za (GL.nil (Zo (GL.buildSlice (cs := [.int .i64 1]) h trivial rfl (vs := [(0, .int .i64 1)]) rfl ⟨3, fun _ => by kernel_rfl⟩ ?_)))
 intro b50 H51 h
 refine Za (GL.nil (Zo (Zm (Zm (Zc h Qj ?_)))))
 rintro _ H53 ⟨r52, rfl, h⟩
 refine GL.buildSlice (cs := (Qa.c r52) ++ []) h trivial rfl (vs := [(0, .agg (Qa.c r52).toArray)]) rfl ⟨36, fun _ => by kernel_rfl⟩ ?_
 intro b54 H55 h
 refine Zc h Qp ?_
 rintro _ H58 ⟨r56, r57, rfl, h⟩
 refine Zm (Yv (slv r56) rfl rfl (Yv (.int .i64 r57) rfl rfl (Za (Za (GL.nil (Zo (Zm (Yx h fun p59 h => ?_))))))))
 refine GL.store (p := (p59.1, p59.2 + (0 : Int).toNat * 1)) (v := .int .i64 0) h trivial rfl rfl rfl rfl ?_
 intro H64 h
 refine GL.nil (Zo (Zm (Zc h Qi ?_)))
 rintro _ H66 ⟨r65, rfl, h⟩
 refine Zc h Qj ?_
 rintro _ H68 ⟨r67, rfl, h⟩
 refine GL.buildSlice (cs := (Qa.c r65) ++ (Qa.c r67) ++ []) h trivial rfl (vs := [(0, .agg (Qa.c r65).toArray), (1, .agg (Qa.c r67).toArray)]) rfl ⟨36, fun _ => by kernel_rfl⟩ ?_
 intro b69 H70 h
 refine Zc h Q4 ?_
 rintro _ H73 ⟨r71, r72, rfl, h⟩
 refine GL.nil (Zo (Zm (Zc h Qi ?_)))
 rintro _ H75 ⟨r74, rfl, h⟩
 refine Zc h Qj ?_
 rintro _ H77 ⟨r76, rfl, h⟩
 refine GL.buildSlice (cs := (Qa.c r74) ++ (Qa.c r76) ++ []) h trivial rfl (vs := [(0, .agg (Qa.c r74).toArray), (1, .agg (Qa.c r76).toArray)]) rfl ⟨36, fun _ => by kernel_rfl⟩ ?_
 intro b78 H79 h
 refine Zc h Q3 ?_
 rintro _ H82 ⟨r80, r81, rfl, h⟩
 refine GL.nil (Zo (Zm (GL.buildSlice (cs := [.int .i64 1]) h trivial rfl (vs := [(0, .int .i64 1)]) rfl ⟨3, fun _ => by kernel_rfl⟩ ?_)))
 intro b83 H84 h
 refine Zc h Qj ?_
 rintro _ H86 ⟨r85, rfl, h⟩
 refine GL.buildSlice (cs := (Qa.c r85) ++ []) h trivial rfl (vs := [(0, .agg (Qa.c r85).toArray)]) rfl ⟨36, fun _ => by kernel_rfl⟩ ?_
 intro b87 H88 h
 refine Zc h Qp ?_
 rintro _ H91 ⟨r89, r90, rfl, h⟩
 refine Zm (Yv (slv r89) rfl rfl (Yv (.int .i64 r90) rfl rfl (Za (Za (GL.nil (GC.seq (Zo (Zm (Zq (Zi (.bool (((Sl.len r56 : Int) : Int) != 2)) (Zm ?_)))))))))))
 obtain ⟨J93, h, hR94⟩ := h
 refine GL.cut (α := Bool) 11 J93 (fun b92 => [(136, .bool b92), (1, pv r4), (2, .bool r10), (4, .bool r17), (7, .int .i64 r23), (9, .int .i64 r28), (11, .int .i64 r33), (12, slv r35), (13, .int .i64 r36), (14, .bool r38), (15, .int .i64 r39), (16, slv r45), (17, .int .i64 r46)]) ?_ ?_
 rcases h.em with ⟨u95, h⟩ | ⟨u95, h⟩
 refine Zk u95 (Zk u95 (Zk u95 (Zk u95 (Zk u95 (Zk u95 (Zk u95 (Zk u95 (Zk u95 (Zk u95 (Zt u95 ?_))))))))))
 exact Yj I3 true h
 refine Zu u95 Ym (GL.call h (Yt u95) rfl Qi (vs := [.int .i64 2]) rfl ?_)
 rintro _ H97 ⟨r96, rfl, h⟩
 refine GL.call h (Yt u95) rfl Qj (vs := [sv [97]]) rfl ?_
 rintro _ H99 ⟨r98, rfl, h⟩
 refine GL.buildSlice (cs := (Qa.c r96) ++ (Qa.c r98) ++ []) h (Yt u95) rfl (vs := [(0, .agg (Qa.c r96).toArray), (1, .agg (Qa.c r98).toArray)]) rfl ⟨36, fun _ => by kernel_rfl⟩ ?_
 intro b100 H101 h
 refine GL.call h (Yt u95) rfl Qi (vs := [.int .i64 3]) rfl ?_
 rintro _ H103 ⟨r102, rfl, h⟩
 refine GL.call h (Yt u95) rfl Qj (vs := [sv [97]]) rfl ?_
 rintro _ H105 ⟨r104, rfl, h⟩
 refine GL.buildSlice (cs := (Qa.c r102) ++ (Qa.c r104) ++ []) h (Yt u95) rfl (vs := [(0, .agg (Qa.c r102).toArray), (1, .agg (Qa.c r104).toArray)]) rfl ⟨36, fun _ => by kernel_rfl⟩ ?_
 intro b106 H107 h
 refine GL.buildSlice (cs := [slv (Sl.of (some (b100, 0)) 2 2), slv (Sl.of (some (b106, 0)) 2 2)]) h (Yt u95) rfl (vs := [(0, slv (Sl.of (some (b100, 0)) 2 2)), (1, slv (Sl.of (some (b106, 0)) 2 2))]) rfl ⟨24, fun _ => by kernel_rfl⟩ ?_
 intro b108 H109 h
 refine GL.call h (Yt u95) rfl QaM (vs := [slv r89, slv (Sl.of (some (b108, 0)) 2 2)]) rfl ?_
 rintro _ H111 ⟨r110, rfl, h⟩
 refine Zu u95 (OV.not rfl) (Zn u95 ?_)
 exact Yj I3 (!r110) h
 intro b92 H112 h
 replace h := hR94 b92 H112 h
 refine GL.nil (Yd h (fun u113 h => ?_) fun u113 h => ?_)
 refine Zo (Za (GL.nil ?_))
 exact Y1 I3 ⟨false, rfl, h⟩
 refine GC.skip (Zo (Za (GL.nil (Zo (Zm (Zc h Q4 ?_))))))
 rintro _ H116 ⟨r114, r115, rfl, h⟩
 refine Zm (Yv (.bool r114) rfl rfl (Yv (.int .i64 r115) rfl rfl (Za (Za (GL.nil (Zo (Zm (Zc h Q3 ?_))))))))
 rintro _ H119 ⟨r117, r118, rfl, h⟩
 refine Zm (Yv (.bool r117) rfl rfl (Yv (.int .i64 r118) rfl rfl (Za (Za (GL.nil (Zo (Zm (Zc h Qp ?_))))))))
 rintro _ H122 ⟨r120, r121, rfl, h⟩
 refine Zm (Yv (slv r120) rfl rfl (Yv (.int .i64 r121) rfl rfl (Za (Za (GL.nil (Zo (Zm (Zm (GL.cut0 3 [(156, .bool (r10 && (!r17))), (1, pv r4), (7, .int .i64 r23), (9, .int .i64 r28), (11, .int .i64 r33), (12, slv r35), (13, .int .i64 r36), (14, .bool r38), (15, .int .i64 r39), (16, slv r45), (17, .int .i64 r46), (24, pv none), (26, .int .i64 r115), (28, .int .i64 r118), (30, .int .i64 r121)] ?_ ?_)))))))))
 rcases Bool.eq_false_or_eq_true r10 with u123 | u123
 refine Zu u123 Ym (Zu u123 (OV.not rfl) (Zt u123 ?_))
 exact GL.jump0 (fun _ _ h => h) () rfl ⟨(by rw [u123]; rfl), rfl, rfl, rfl, rfl, rfl, rfl, rfl, rfl, rfl, rfl, rfl, rfl, rfl, rfl, trivial⟩
 refine Zk u123 (Zk u123 (Zn u123 ?_))
 exact GL.jump0 (fun _ _ h => h) () rfl ⟨(by rw [u123]; rfl), rfl, rfl, rfl, rfl, rfl, rfl, rfl, rfl, rfl, rfl, rfl, rfl, rfl, rfl, trivial⟩
 refine Zm (GL.cut0 3 [(160, .bool ((r10 && (!r17)) && ((r23 : Int) == 1))), (1, pv r4), (9, .int .i64 r28), (11, .int .i64 r33), (12, slv r35), (13, .int .i64 r36), (14, .bool r38), (15, .int .i64 r39), (16, slv r45), (17, .int .i64 r46), (24, pv none), (26, .int .i64 r115), (28, .int .i64 r118), (30, .int .i64 r121)] ?_ ?_)
 rcases Zb (r10 && (!r17)) with u124 | u124
 refine Zu u124 Ym (Zu u124 (OV.ibin (v := .bool ((r23 : Int) == 1)) rfl rfl rfl) (Zt u124 ?_))
 exact GL.jump0 (fun _ _ h => h) () rfl ⟨(by rw [u124]; rfl), rfl, rfl, rfl, rfl, rfl, rfl, rfl, rfl, rfl, rfl, rfl, rfl, rfl, trivial⟩
 refine Zk u124 (Zk u124 (Zn u124 ?_))
 exact GL.jump0 (fun _ _ h => h) () rfl ⟨(by rw [u124]; rfl), rfl, rfl, rfl, rfl, rfl, rfl, rfl, rfl, rfl, rfl, rfl, rfl, rfl, trivial⟩
 refine Zm (GL.cut0 3 [(164, .bool (((r10 && (!r17)) && ((r23 : Int) == 1)) && ((r28 : Int) == 4))), (1, pv r4), (11, .int .i64 r33), (12, slv r35), (13, .int .i64 r36), (14, .bool r38), (15, .int .i64 r39), (16, slv r45), (17, .int .i64 r46), (24, pv none), (26, .int .i64 r115), (28, .int .i64 r118), (30, .int .i64 r121)] ?_ ?_)
 rcases Zb ((r10 && (!r17)) && ((r23 : Int) == 1)) with u125 | u125
 refine Zu u125 Ym (Zu u125 (OV.ibin (v := .bool ((r28 : Int) == 4)) rfl rfl rfl) (Zt u125 ?_))
 exact GL.jump0 (fun _ _ h => h) () rfl ⟨(by rw [u125]; rfl), rfl, rfl, rfl, rfl, rfl, rfl, rfl, rfl, rfl, rfl, rfl, rfl, trivial⟩
 refine Zk u125 (Zk u125 (Zn u125 ?_))
 exact GL.jump0 (fun _ _ h => h) () rfl ⟨(by rw [u125]; rfl), rfl, rfl, rfl, rfl, rfl, rfl, rfl, rfl, rfl, rfl, rfl, rfl, trivial⟩
 refine Zm (GL.cut0 3 [(168, .bool ((((r10 && (!r17)) && ((r23 : Int) == 1)) && ((r28 : Int) == 4)) && ((r33 : Int) == 4))), (1, pv r4), (12, slv r35), (13, .int .i64 r36), (14, .bool r38), (15, .int .i64 r39), (16, slv r45), (17, .int .i64 r46), (24, pv none), (26, .int .i64 r115), (28, .int .i64 r118), (30, .int .i64 r121)] ?_ ?_)
 rcases Zb (((r10 && (!r17)) && ((r23 : Int) == 1)) && ((r28 : Int) == 4)) with u126 | u126
 refine Zu u126 Ym (Zu u126 (OV.ibin (v := .bool ((r33 : Int) == 4)) rfl rfl rfl) (Zt u126 ?_))
 exact GL.jump0 (fun _ _ h => h) () rfl ⟨(by rw [u126]; rfl), rfl, rfl, rfl, rfl, rfl, rfl, rfl, rfl, rfl, rfl, rfl, trivial⟩
 refine Zk u126 (Zk u126 (Zn u126 ?_))
 exact GL.jump0 (fun _ _ h => h) () rfl ⟨(by rw [u126]; rfl), rfl, rfl, rfl, rfl, rfl, rfl, rfl, rfl, rfl, rfl, rfl, trivial⟩
 refine Zm (GL.cut0 3 [(172, .bool (((((r10 && (!r17)) && ((r23 : Int) == 1)) && ((r28 : Int) == 4)) && ((r33 : Int) == 4)) && ((r36 : Int) == 0))), (1, pv r4), (12, slv r35), (14, .bool r38), (15, .int .i64 r39), (16, slv r45), (17, .int .i64 r46), (24, pv none), (26, .int .i64 r115), (28, .int .i64 r118), (30, .int .i64 r121)] ?_ ?_)
 rcases Zb ((((r10 && (!r17)) && ((r23 : Int) == 1)) && ((r28 : Int) == 4)) && ((r33 : Int) == 4)) with u127 | u127
 refine Zu u127 Ym (Zu u127 (OV.ibin (v := .bool ((r36 : Int) == 0)) rfl rfl rfl) (Zt u127 ?_))
 exact GL.jump0 (fun _ _ h => h) () rfl ⟨(by rw [u127]; rfl), rfl, rfl, rfl, rfl, rfl, rfl, rfl, rfl, rfl, rfl, trivial⟩
 refine Zk u127 (Zk u127 (Zn u127 ?_))
 exact GL.jump0 (fun _ _ h => h) () rfl ⟨(by rw [u127]; rfl), rfl, rfl, rfl, rfl, rfl, rfl, rfl, rfl, rfl, rfl, trivial⟩
 refine Zm (GL.cut0 4 [(177, .bool ((((((r10 && (!r17)) && ((r23 : Int) == 1)) && ((r28 : Int) == 4)) && ((r33 : Int) == 4)) && ((r36 : Int) == 0)) && (((Sl.len r35 : Int) : Int) == 3))), (1, pv r4), (14, .bool r38), (15, .int .i64 r39), (16, slv r45), (17, .int .i64 r46), (24, pv none), (26, .int .i64 r115), (28, .int .i64 r118), (30, .int .i64 r121)] ?_ ?_)
 rcases Zb (((((r10 && (!r17)) && ((r23 : Int) == 1)) && ((r28 : Int) == 4)) && ((r33 : Int) == 4)) && ((r36 : Int) == 0)) with u128 | u128
 refine Zu u128 Ym (Zu u128 (OV.lenSl rfl rfl) (Zu u128 (OV.ibin (v := .bool (((Sl.len r35 : Int) : Int) == 3)) rfl rfl rfl) (Zt u128 ?_)))
 exact GL.jump0 (fun _ _ h => h) () rfl ⟨(by rw [u128]; rfl), rfl, rfl, rfl, rfl, rfl, rfl, rfl, rfl, rfl, trivial⟩
 refine Zk u128 (Zk u128 (Zk u128 (Zn u128 ?_)))
 exact GL.jump0 (fun _ _ h => h) () rfl ⟨(by rw [u128]; rfl), rfl, rfl, rfl, rfl, rfl, rfl, rfl, rfl, rfl, trivial⟩
 refine Zm (GL.cut0 2 [(180, .bool (((((((r10 && (!r17)) && ((r23 : Int) == 1)) && ((r28 : Int) == 4)) && ((r33 : Int) == 4)) && ((r36 : Int) == 0)) && (((Sl.len r35 : Int) : Int) == 3)) && r38)), (1, pv r4), (15, .int .i64 r39), (16, slv r45), (17, .int .i64 r46), (24, pv none), (26, .int .i64 r115), (28, .int .i64 r118), (30, .int .i64 r121)] ?_ ?_)
 rcases Zb ((((((r10 && (!r17)) && ((r23 : Int) == 1)) && ((r28 : Int) == 4)) && ((r33 : Int) == 4)) && ((r36 : Int) == 0)) && (((Sl.len r35 : Int) : Int) == 3)) with u129 | u129
 refine Zu u129 Ym (Zt u129 ?_)
 exact GL.jump0 (fun _ _ h => h) () rfl ⟨(by rw [u129]; rfl), rfl, rfl, rfl, rfl, rfl, rfl, rfl, rfl, trivial⟩
 refine Zk u129 (Zn u129 ?_)
 exact GL.jump0 (fun _ _ h => h) () rfl ⟨(by rw [u129]; rfl), rfl, rfl, rfl, rfl, rfl, rfl, rfl, rfl, trivial⟩
 refine Zm (GL.cut0 3 [(184, .bool ((((((((r10 && (!r17)) && ((r23 : Int) == 1)) && ((r28 : Int) == 4)) && ((r33 : Int) == 4)) && ((r36 : Int) == 0)) && (((Sl.len r35 : Int) : Int) == 3)) && r38) && ((r39 : Int) == 0))), (1, pv r4), (16, slv r45), (17, .int .i64 r46), (24, pv none), (26, .int .i64 r115), (28, .int .i64 r118), (30, .int .i64 r121)] ?_ ?_)
 rcases Zb (((((((r10 && (!r17)) && ((r23 : Int) == 1)) && ((r28 : Int) == 4)) && ((r33 : Int) == 4)) && ((r36 : Int) == 0)) && (((Sl.len r35 : Int) : Int) == 3)) && r38) with u130 | u130
 refine Zu u130 Ym (Zu u130 (OV.ibin (v := .bool ((r39 : Int) == 0)) rfl rfl rfl) (Zt u130 ?_))
 exact GL.jump0 (fun _ _ h => h) () rfl ⟨(by rw [u130]; rfl), rfl, rfl, rfl, rfl, rfl, rfl, rfl, trivial⟩
 refine Zk u130 (Zk u130 (Zn u130 ?_))
 exact GL.jump0 (fun _ _ h => h) () rfl ⟨(by rw [u130]; rfl), rfl, rfl, rfl, rfl, rfl, rfl, rfl, trivial⟩
 refine Zm ?_
 obtain ⟨J132, h, hR133⟩ := h
 refine GL.cut (α := Bool) 3 J132 (fun b131 => [(188, .bool b131), (16, slv r45), (17, .int .i64 r46), (24, pv none), (26, .int .i64 r115), (28, .int .i64 r118), (30, .int .i64 r121)]) ?_ ?_
 rcases h.em with ⟨u134, h⟩ | ⟨u134, h⟩
 refine Zu u134 Ym (GL.call h (Yt u134) rfl Qch (vs := [pv r4, slv Sl.nil]) rfl ?_)
 rintro _ H136 ⟨r135, rfl, h⟩
 refine Zt u134 ?_
 exact Yj I3 r135 h
 refine Zk u134 (Zk u134 (Zn u134 ?_))
 exact Yj I3 false h
 intro b131 H137 h
 replace h := hR133 b131 H137 h
 refine Zm (GL.cut0 4 [(193, .bool (b131 && (((Sl.len r45 : Int) : Int) == 0))), (17, .int .i64 r46), (24, pv none), (26, .int .i64 r115), (28, .int .i64 r118), (30, .int .i64 r121)] ?_ ?_)
 rcases Bool.eq_false_or_eq_true b131 with u138 | u138
 refine Zu u138 Ym (Zu u138 (OV.lenSl rfl rfl) (Zu u138 (OV.ibin (v := .bool (((Sl.len r45 : Int) : Int) == 0)) rfl rfl rfl) (Zt u138 ?_)))
 exact GL.jump0 (fun _ _ h => h) () rfl ⟨(by rw [u138]; rfl), rfl, rfl, rfl, rfl, rfl, trivial⟩
 refine Zk u138 (Zk u138 (Zk u138 (Zn u138 ?_)))
 exact GL.jump0 (fun _ _ h => h) () rfl ⟨(by rw [u138]; rfl), rfl, rfl, rfl, rfl, rfl, trivial⟩
 refine Zm (GL.cut0 3 [(197, .bool ((b131 && (((Sl.len r45 : Int) : Int) == 0)) && ((r46 : Int) == 0))), (24, pv none), (26, .int .i64 r115), (28, .int .i64 r118), (30, .int .i64 r121)] ?_ ?_)
 rcases Zb (b131 && (((Sl.len r45 : Int) : Int) == 0)) with u139 | u139
 refine Zu u139 Ym (Zu u139 (OV.ibin (v := .bool ((r46 : Int) == 0)) rfl rfl rfl) (Zt u139 ?_))
 exact GL.jump0 (fun _ _ h => h) () rfl ⟨(by rw [u139]; rfl), rfl, rfl, rfl, rfl, trivial⟩
 refine Zk u139 (Zk u139 (Zn u139 ?_))
 exact GL.jump0 (fun _ _ h => h) () rfl ⟨(by rw [u139]; rfl), rfl, rfl, rfl, rfl, trivial⟩
 refine Zm (GL.cut0 3 [(201, .bool (((b131 && (((Sl.len r45 : Int) : Int) == 0)) && ((r46 : Int) == 0)) && ((r115 : Int) == 2))), (24, pv none), (28, .int .i64 r118), (30, .int .i64 r121)] ?_ ?_)
 rcases Zb ((b131 && (((Sl.len r45 : Int) : Int) == 0)) && ((r46 : Int) == 0)) with u140 | u140
 refine Zu u140 Ym (Zu u140 (OV.ibin (v := .bool ((r115 : Int) == 2)) rfl rfl rfl) (Zt u140 ?_))
 exact GL.jump0 (fun _ _ h => h) () rfl ⟨(by rw [u140]; rfl), rfl, rfl, rfl, trivial⟩
 refine Zk u140 (Zk u140 (Zn u140 ?_))
 exact GL.jump0 (fun _ _ h => h) () rfl ⟨(by rw [u140]; rfl), rfl, rfl, rfl, trivial⟩
 refine Zm (GL.cut0 3 [(205, .bool ((((b131 && (((Sl.len r45 : Int) : Int) == 0)) && ((r46 : Int) == 0)) && ((r115 : Int) == 2)) && ((r118 : Int) == 2))), (24, pv none), (30, .int .i64 r121)] ?_ ?_)
 rcases Zb (((b131 && (((Sl.len r45 : Int) : Int) == 0)) && ((r46 : Int) == 0)) && ((r115 : Int) == 2)) with u141 | u141
 refine Zu u141 Ym (Zu u141 (OV.ibin (v := .bool ((r118 : Int) == 2)) rfl rfl rfl) (Zt u141 ?_))
 exact GL.jump0 (fun _ _ h => h) () rfl ⟨(by rw [u141]; rfl), rfl, rfl, trivial⟩
 refine Zk u141 (Zk u141 (Zn u141 ?_))
 exact GL.jump0 (fun _ _ h => h) () rfl ⟨(by rw [u141]; rfl), rfl, rfl, trivial⟩
 refine Zm (GL.cut0 3 [(209, .bool (((((b131 && (((Sl.len r45 : Int) : Int) == 0)) && ((r46 : Int) == 0)) && ((r115 : Int) == 2)) && ((r118 : Int) == 2)) && ((r121 : Int) == 2))), (24, pv none)] ?_ ?_)
 rcases Zb ((((b131 && (((Sl.len r45 : Int) : Int) == 0)) && ((r46 : Int) == 0)) && ((r115 : Int) == 2)) && ((r118 : Int) == 2)) with u142 | u142
 refine Zu u142 Ym (Zu u142 (OV.ibin (v := .bool ((r121 : Int) == 2)) rfl rfl rfl) (Zt u142 ?_))
 exact GL.jump0 (fun _ _ h => h) () rfl ⟨(by rw [u142]; rfl), rfl, trivial⟩
 refine Zk u142 (Zk u142 (Zn u142 ?_))
 exact GL.jump0 (fun _ _ h => h) () rfl ⟨(by rw [u142]; rfl), rfl, trivial⟩
 refine Zm ?_
 obtain ⟨J144, h, hR145⟩ := h
 refine GL.cut (α := Bool) 4 J144 (fun b143 => [(214, .bool b143), (24, pv none)]) ?_ ?_
 rcases h.em with ⟨u146, h⟩ | ⟨u146, h⟩
 refine Zu u146 Ym (GL.call h (Yt u146) rfl Qch (vs := [pv none, slv Sl.nil]) rfl ?_)
 rintro _ H148 ⟨r147, rfl, h⟩
 refine Zu u146 (OV.not rfl) (Zt u146 ?_)
 exact Yj I3 (!r147) h
 refine Zk u146 (Zk u146 (Zk u146 (Zn u146 ?_)))
 exact Yj I3 false h
 intro b143 H149 h
 replace h := hR145 b143 H149 h
 refine Zm ?_
 obtain ⟨J151, h, hR152⟩ := h
 refine GL.cut (α := Bool) 8 J151 (fun b150 => [(223, .bool b150), (24, pv none)]) ?_ ?_
 rcases h.em with ⟨u153, h⟩ | ⟨u153, h⟩
 refine Zu u153 Ym (GL.call h (Yt u153) rfl Qci (vs := [pv none]) rfl ?_)
 rintro _ H155 ⟨r154, rfl, h⟩
 refine Zu u153 Ym (GL.call h (Yt u153) rfl Qcg (vs := [pv none]) rfl ?_)
 rintro _ H157 ⟨r156, rfl, h⟩
 refine Zu u153 (OV.lenSl rfl rfl) (Zu u153 (OV.ibin (v := .int .i64 (w .i64 (r154 + (Sl.len r156 : Int)))) rfl rfl rfl) (Zu u153 (OV.ibin (v := .bool (((w .i64 (r154 + (Sl.len r156 : Int))) : Int) == 0)) rfl rfl rfl) (Zt u153 ?_)))
 exact Yj I3 (((w .i64 (r154 + (Sl.len r156 : Int))) : Int) == 0) h
 refine Zk u153 (Zk u153 (Zk u153 (Zk u153 (Zk u153 (Zk u153 (Zk u153 (Zn u153 ?_)))))))
 exact Yj I3 false h
 intro b150 H158 h
 replace h := hR152 b150 H158 h
 refine Zm ?_
 obtain ⟨J160, h, hR161⟩ := h
 refine GL.cut (α := Bool) 4 J160 (fun b159 => [(228, .bool b159)]) ?_ ?_
 rcases h.em with ⟨u162, h⟩ | ⟨u162, h⟩
 refine Zu u162 Ym (GL.call h (Yt u162) rfl Qen (vs := [pv none]) rfl ?_)
 rintro _ H164 ⟨r163, rfl, h⟩
 refine Zu u162 (OV.eqlNil (p := r163) rfl rfl rfl) (Zt u162 ?_)
 exact Yj I3 (Option.isNone r163) h
 refine Zk u162 (Zk u162 (Zk u162 (Zn u162 ?_)))
 exact Yj I3 false h
 intro b159 H165 h
 replace h := hR161 b159 H165 h
 refine Za (GL.nil ?_)
 exact Y1 I3 ⟨b159, rfl, h⟩
end
section
set_option maxRecDepth 100000
open Go Go.Proofs
def Qed (C : Ctx) (K : Bool → Heap → Prop) (H : Heap) : Prop :=
 QaB C (fun r1 H2 =>
 nw ([.int .i64 1]) (fun b3 H4 =>
 Qg C [97] (fun r5 H6 =>
 nw ((Qa.c r5) ++ []) (fun b7 H8 =>
 Qe C r1 (Sl.of (some (b3, 0)) 1 1) (Sl.of (some (b7, 0)) 1 1) (fun r9 r10 H11 =>
 nw ([.int .i64 0, .int .i64 1]) (fun b12 H13 =>
 Qf C 1 (fun r14 H15 =>
 Qg C [98] (fun r16 H17 =>
 nw ((Qa.c r14) ++ (Qa.c r16) ++ []) (fun b18 H19 =>
 Qe C r1 (Sl.of (some (b12, 0)) 2 2) (Sl.of (some (b18, 0)) 2 2) (fun r20 r21 H22 =>
 nw ([.int .i64 5]) (fun b23 H24 =>
 Qf C 1 (fun r25 H26 =>
 nw ((Qa.c r25) ++ []) (fun b27 H28 =>
 Qe C r1 (Sl.of (some (b23, 0)) 1 1) (Sl.of (some (b27, 0)) 1 1) (fun r29 r30 H31 =>
 QT C r1 (fun r32 H33 =>
 jn (α := Bool) (fun b34 H66 =>
 jn (α := Bool) (fun b68 H88 =>
 jn (α := Bool) (fun b90 H104 =>
 K ((b90 && ((r30 : Int) == 0)) && (((Sl.len r29 : Int) : Int) == 0)) H104)
 (fun J91 => ift (b68 && ((r21 : Int) == 0))
 (Qf C 1 (fun r94 H95 =>
 Qg C [98] (fun r96 H97 =>
 nw ((Qa.c r94) ++ (Qa.c r96) ++ []) (fun b98 H99 =>
 nw ([slv (Sl.of (some (b98, 0)) 2 2)]) (fun b100 H101 =>
 QX C r20 (Sl.of (some (b100, 0)) 1 1) (fun r102 H103 =>
 J91 r102 H103) H101) H99) H97) H95) H88)
 (J91 false H88)))
 (fun J69 => ift (b34 && ((r10 : Int) == 0))
 (Qf C 1 (fun r72 H73 =>
 Qg C [97] (fun r74 H75 =>
 nw ((Qa.c r72) ++ (Qa.c r74) ++ []) (fun b76 H77 =>
 Qf C 2 (fun r78 H79 =>
 Qg C [97] (fun r80 H81 =>
 nw ((Qa.c r78) ++ (Qa.c r80) ++ []) (fun b82 H83 =>
 nw ([slv (Sl.of (some (b76, 0)) 2 2), slv (Sl.of (some (b82, 0)) 2 2)]) (fun b84 H85 =>
 QX C r9 (Sl.of (some (b84, 0)) 2 2) (fun r86 H87 =>
 J69 r86 H87) H85) H83) H81) H79) H77) H75) H73) H66)
 (J69 false H66)))
 (fun J35 => ift ((r32 : Int) == 4)
 (QR C r1 (fun r38 H39 =>
 Qf C 1 (fun r40 H41 =>
 nw ((Qa.c r40) ++ []) (fun b42 H43 =>
 Qf C 1 (fun r44 H45 =>
 Qg C [97] (fun r46 H47 =>
 nw ((Qa.c r44) ++ (Qa.c r46) ++ []) (fun b48 H49 =>
 Qf C 1 (fun r50 H51 =>
 Qg C [98] (fun r52 H53 =>
 nw ((Qa.c r50) ++ (Qa.c r52) ++ []) (fun b54 H55 =>
 Qf C 2 (fun r56 H57 =>
 Qg C [97] (fun r58 H59 =>
 nw ((Qa.c r56) ++ (Qa.c r58) ++ []) (fun b60 H61 =>
 nw ([slv (Sl.of (some (b42, 0)) 1 1), slv (Sl.of (some (b48, 0)) 2 2), slv (Sl.of (some (b54, 0)) 2 2), slv (Sl.of (some (b60, 0)) 2 2)]) (fun b62 H63 =>
 QX C r38 (Sl.of (some (b62, 0)) 4 4) (fun r64 H65 =>
 J35 r64 H65) H63) H61) H59) H57) H55) H53) H51) H49) H47) H45) H43) H41) H39) H33)
 (J35 false H33))) H31) H28) H26) H24) H22) H19) H17) H15) H13) H11) H8) H6) H4) H2) H
theorem Qgg (C : Ctx) (K : Bool → Heap → Prop) (H : Heap) (h : Qed C  K H) : Qc8 C  K H := by
 refine Spec.enter Tryz.func8 rfl Tryz.ntmps8 rfl (GC.sub [] trivial (Zo (Za (GL.nil (Zo (Zc h QbC ?_))))))
 rintro _ H2 ⟨r1, rfl, h⟩
 refine Za (GL.nil (Zo (Zm (GL.buildSlice (cs := [.int .i64 1]) h trivial rfl (vs := [(0, .int .i64 1)]) rfl ⟨3, fun _ => by kernel_rfl⟩ ?_))))
 intro b3 H4 h
 refine Zc h Qj ?_
 rintro _ H6 ⟨r5, rfl, h⟩
 refine GL.buildSlice (cs := (Qa.c r5) ++ []) h trivial rfl (vs := [(0, .agg (Qa.c r5).toArray)]) rfl ⟨36, fun _ => by kernel_rfl⟩ ?_
 intro b7 H8 h
 refine Zc h Qp ?_
 rintro _ H11 ⟨r9, r10, rfl, h⟩
 refine Zm (Yv (slv r9) rfl rfl (Yv (.int .i64 r10) rfl rfl (Za (Za (GL.nil (Zo (Zm (GL.buildSlice (cs := [.int .i64 0, .int .i64 1]) h trivial rfl (vs := [(0, .int .i64 0), (1, .int .i64 1)]) rfl ⟨3, fun _ => by kernel_rfl⟩ ?_))))))))
 intro b12 H13 h
 refine Zc h Qi ?_
 rintro _ H15 ⟨r14, rfl, h⟩
 refine Zc h Qj ?_
 rintro _ H17 ⟨r16, rfl, h⟩
 refine GL.buildSlice (cs := (Qa.c r14) ++ (Qa.c r16) ++ []) h trivial rfl (vs := [(0, .agg (Qa.c r14).toArray), (1, .agg (Qa.c r16).toArray)]) rfl ⟨36, fun _ => by kernel_rfl⟩ ?_
 intro b18 H19 h
 refine Zc h Qp ?_
 rintro _ H22 ⟨r20, r21, rfl, h⟩
 refine Zm (Yv (slv r20) rfl rfl (Yv (.int .i64 r21) rfl rfl (Za (Za (GL.nil (Zo (Zm (GL.buildSlice (cs := [.int .i64 5]) h trivial rfl (vs := [(0, .int .i64 5)]) rfl ⟨3, fun _ => by kernel_rfl⟩ ?_))))))))
 intro b23 H24 h
 refine Zc h Qi ?_
 rintro _ H26 ⟨r25, rfl, h⟩
 refine GL.buildSlice (cs := (Qa.c r25) ++ []) h trivial rfl (vs := [(0, .agg (Qa.c r25).toArray)]) rfl ⟨36, fun _ => by kernel_rfl⟩ ?_
 intro b27 H28 h
 refine Zc h Qp ?_
 rintro _ H31 ⟨r29, r30, rfl, h⟩
 refine Zm (Yv (slv r29) rfl rfl (Yv (.int .i64 r30) rfl rfl (Za (Za (GL.nil (Zo (Zm (Zc h Qci ?_))))))))
 rintro _ H33 ⟨r32, rfl, h⟩
 refine Zi (.bool ((r32 : Int) == 4)) (Zm ?_)
 obtain ⟨J35, h, hR36⟩ := h
 refine GL.cut (α := Bool) 16 J35 (fun b34 => [(53, .bool b34), (2, slv r9), (3, .int .i64 r10), (4, slv r20), (5, .int .i64 r21), (6, slv r29), (7, .int .i64 r30)]) ?_ ?_
 rcases h.em with ⟨u37, h⟩ | ⟨u37, h⟩
 refine Zu u37 Ym (GL.call h (Yt u37) rfl Qcg (vs := [pv r1]) rfl ?_)
 rintro _ H39 ⟨r38, rfl, h⟩
 refine GL.call h (Yt u37) rfl Qi (vs := [.int .i64 1]) rfl ?_
 rintro _ H41 ⟨r40, rfl, h⟩
 refine GL.buildSlice (cs := (Qa.c r40) ++ []) h (Yt u37) rfl (vs := [(0, .agg (Qa.c r40).toArray)]) rfl ⟨36, fun _ => by kernel_rfl⟩ ?_
 intro b42 H43 h
 refine GL.call h (Yt u37) rfl Qi (vs := [.int .i64 1]) rfl ?_
 rintro _ H45 ⟨r44, rfl, h⟩
 refine GL.call h (Yt u37) rfl Qj (vs := [sv [97]]) rfl ?_
 rintro _ H47 ⟨r46, rfl, h⟩
 refine GL.buildSlice (cs := (Qa.c r44) ++ (Qa.c r46) ++ []) h (Yt u37) rfl (vs := [(0, .agg (Qa.c r44).toArray), (1, .agg (Qa.c r46).toArray)]) rfl ⟨36, fun _ => by kernel_rfl⟩ ?_
 intro b48 H49 h
 refine GL.call h (Yt u37) rfl Qi (vs := [.int .i64 1]) rfl ?_
 rintro _ H51 ⟨r50, rfl, h⟩
 refine GL.call h (Yt u37) rfl Qj (vs := [sv [98]]) rfl ?_
 rintro _ H53 ⟨r52, rfl, h⟩
 refine GL.buildSlice (cs := (Qa.c r50) ++ (Qa.c r52) ++ []) h (Yt u37) rfl (vs := [(0, .agg (Qa.c r50).toArray), (1, .agg (Qa.c r52).toArray)]) rfl ⟨36, fun _ => by kernel_rfl⟩ ?_
 intro b54 H55 h
 refine GL.call h (Yt u37) rfl Qi (vs := [.int .i64 2]) rfl ?_
 rintro _ H57 ⟨r56, rfl, h⟩
 refine GL.call h (Yt u37) rfl Qj (vs := [sv [97]]) rfl ?_
 rintro _ H59 ⟨r58, rfl, h⟩
 refine GL.buildSlice (cs := (Qa.c r56) ++ (Qa.c r58) ++ []) h (Yt u37) rfl (vs := [(0, .agg (Qa.c r56).toArray), (1, .agg (Qa.c r58).toArray)]) rfl ⟨36, fun _ => by kernel_rfl⟩ ?_
 intro b60 H61 h
 refine GL.buildSlice (cs := [slv (Sl.of (some (b42, 0)) 1 1), slv (Sl.of (some (b48, 0)) 2 2), slv (Sl.of (some (b54, 0)) 2 2), slv (Sl.of (some (b60, 0)) 2 2)]) h (Yt u37) rfl (vs := [(0, slv (Sl.of (some (b42, 0)) 1 1)), (1, slv (Sl.of (some (b48, 0)) 2 2)), (2, slv (Sl.of (some (b54, 0)) 2 2)), (3, slv (Sl.of (some (b60, 0)) 2 2))]) rfl ⟨24, fun _ => by kernel_rfl⟩ ?_
 intro b62 H63 h
 refine GL.call h (Yt u37) rfl QaM (vs := [slv r38, slv (Sl.of (some (b62, 0)) 4 4)]) rfl ?_
 rintro _ H65 ⟨r64, rfl, h⟩
 refine Zt u37 ?_
 exact Yj I3 r64 h
 refine Zk u37 (Zk u37 (Zk u37 (Zk u37 (Zk u37 (Zk u37 (Zk u37 (Zk u37 (Zk u37 (Zk u37 (Zk u37 (Zk u37 (Zk u37 (Zk u37 (Zk u37 (Zn u37 ?_)))))))))))))))
 exact Yj I3 false h
 intro b34 H66 h
 replace h := hR36 b34 H66 h
 refine Zm (GL.cut0 3 [(57, .bool (b34 && ((r10 : Int) == 0))), (2, slv r9), (4, slv r20), (5, .int .i64 r21), (6, slv r29), (7, .int .i64 r30)] ?_ ?_)
 rcases Bool.eq_false_or_eq_true b34 with u67 | u67
 refine Zu u67 Ym (Zu u67 (OV.ibin (v := .bool ((r10 : Int) == 0)) rfl rfl rfl) (Zt u67 ?_))
 exact GL.jump0 (fun _ _ h => h) () rfl ⟨(by rw [u67]; rfl), rfl, rfl, rfl, rfl, rfl, trivial⟩
 refine Zk u67 (Zk u67 (Zn u67 ?_))
 exact GL.jump0 (fun _ _ h => h) () rfl ⟨(by rw [u67]; rfl), rfl, rfl, rfl, rfl, rfl, trivial⟩
 refine Zm ?_
 obtain ⟨J69, h, hR70⟩ := h
 refine GL.cut (α := Bool) 10 J69 (fun b68 => [(68, .bool b68), (4, slv r20), (5, .int .i64 r21), (6, slv r29), (7, .int .i64 r30)]) ?_ ?_
 rcases h.em with ⟨u71, h⟩ | ⟨u71, h⟩
 refine Zu u71 Ym (GL.call h (Yt u71) rfl Qi (vs := [.int .i64 1]) rfl ?_)
 rintro _ H73 ⟨r72, rfl, h⟩
 refine GL.call h (Yt u71) rfl Qj (vs := [sv [97]]) rfl ?_
 rintro _ H75 ⟨r74, rfl, h⟩
 refine GL.buildSlice (cs := (Qa.c r72) ++ (Qa.c r74) ++ []) h (Yt u71) rfl (vs := [(0, .agg (Qa.c r72).toArray), (1, .agg (Qa.c r74).toArray)]) rfl ⟨36, fun _ => by kernel_rfl⟩ ?_
 intro b76 H77 h
 refine GL.call h (Yt u71) rfl Qi (vs := [.int .i64 2]) rfl ?_
 rintro _ H79 ⟨r78, rfl, h⟩
 refine GL.call h (Yt u71) rfl Qj (vs := [sv [97]]) rfl ?_
 rintro _ H81 ⟨r80, rfl, h⟩
 refine GL.buildSlice (cs := (Qa.c r78) ++ (Qa.c r80) ++ []) h (Yt u71) rfl (vs := [(0, .agg (Qa.c r78).toArray), (1, .agg (Qa.c r80).toArray)]) rfl ⟨36, fun _ => by kernel_rfl⟩ ?_
 intro b82 H83 h
 refine GL.buildSlice (cs := [slv (Sl.of (some (b76, 0)) 2 2), slv (Sl.of (some (b82, 0)) 2 2)]) h (Yt u71) rfl (vs := [(0, slv (Sl.of (some (b76, 0)) 2 2)), (1, slv (Sl.of (some (b82, 0)) 2 2))]) rfl ⟨24, fun _ => by kernel_rfl⟩ ?_
 intro b84 H85 h
 refine GL.call h (Yt u71) rfl QaM (vs := [slv r9, slv (Sl.of (some (b84, 0)) 2 2)]) rfl ?_
 rintro _ H87 ⟨r86, rfl, h⟩
 refine Zt u71 ?_
 exact Yj I3 r86 h
 refine Zk u71 (Zk u71 (Zk u71 (Zk u71 (Zk u71 (Zk u71 (Zk u71 (Zk u71 (Zk u71 (Zn u71 ?_)))))))))
 exact Yj I3 false h
 intro b68 H88 h
 replace h := hR70 b68 H88 h
 refine Zm (GL.cut0 3 [(72, .bool (b68 && ((r21 : Int) == 0))), (4, slv r20), (6, slv r29), (7, .int .i64 r30)] ?_ ?_)
 rcases Bool.eq_false_or_eq_true b68 with u89 | u89
 refine Zu u89 Ym (Zu u89 (OV.ibin (v := .bool ((r21 : Int) == 0)) rfl rfl rfl) (Zt u89 ?_))
 exact GL.jump0 (fun _ _ h => h) () rfl ⟨(by rw [u89]; rfl), rfl, rfl, rfl, trivial⟩
 refine Zk u89 (Zk u89 (Zn u89 ?_))
 exact GL.jump0 (fun _ _ h => h) () rfl ⟨(by rw [u89]; rfl), rfl, rfl, rfl, trivial⟩
 refine Zm ?_
 obtain ⟨J91, h, hR92⟩ := h
 refine GL.cut (α := Bool) 7 J91 (fun b90 => [(80, .bool b90), (6, slv r29), (7, .int .i64 r30)]) ?_ ?_
 rcases h.em with ⟨u93, h⟩ | ⟨u93, h⟩
 refine Zu u93 Ym (GL.call h (Yt u93) rfl Qi (vs := [.int .i64 1]) rfl ?_)
 rintro _ H95 ⟨r94, rfl, h⟩
 refine GL.call h (Yt u93) rfl Qj (vs := [sv [98]]) rfl ?_
 rintro _ H97 ⟨r96, rfl, h⟩
 refine GL.buildSlice (cs := (Qa.c r94) ++ (Qa.c r96) ++ []) h (Yt u93) rfl (vs := [(0, .agg (Qa.c r94).toArray), (1, .agg (Qa.c r96).toArray)]) rfl ⟨36, fun _ => by kernel_rfl⟩ ?_
 intro b98 H99 h
 refine GL.buildSlice (cs := [slv (Sl.of (some (b98, 0)) 2 2)]) h (Yt u93) rfl (vs := [(0, slv (Sl.of (some (b98, 0)) 2 2))]) rfl ⟨24, fun _ => by kernel_rfl⟩ ?_
 intro b100 H101 h
 refine GL.call h (Yt u93) rfl QaM (vs := [slv r20, slv (Sl.of (some (b100, 0)) 1 1)]) rfl ?_
 rintro _ H103 ⟨r102, rfl, h⟩
 refine Zt u93 ?_
 exact Yj I3 r102 h
 refine Zk u93 (Zk u93 (Zk u93 (Zk u93 (Zk u93 (Zk u93 (Zn u93 ?_))))))
 exact Yj I3 false h
 intro b90 H104 h
 replace h := hR92 b90 H104 h
 refine Zm (GL.cut0 3 [(84, .bool (b90 && ((r30 : Int) == 0))), (6, slv r29)] ?_ ?_)
 rcases Bool.eq_false_or_eq_true b90 with u105 | u105
 refine Zu u105 Ym (Zu u105 (OV.ibin (v := .bool ((r30 : Int) == 0)) rfl rfl rfl) (Zt u105 ?_))
 exact GL.jump0 (fun _ _ h => h) () rfl ⟨(by rw [u105]; rfl), rfl, trivial⟩
 refine Zk u105 (Zk u105 (Zn u105 ?_))
 exact GL.jump0 (fun _ _ h => h) () rfl ⟨(by rw [u105]; rfl), rfl, trivial⟩
 refine Zm (GL.cut0 4 [(89, .bool ((b90 && ((r30 : Int) == 0)) && (((Sl.len r29 : Int) : Int) == 0)))] ?_ ?_)
 rcases Zb (b90 && ((r30 : Int) == 0)) with u106 | u106
 refine Zu u106 Ym (Zu u106 (OV.lenSl rfl rfl) (Zu u106 (OV.ibin (v := .bool (((Sl.len r29 : Int) : Int) == 0)) rfl rfl rfl) (Zt u106 ?_)))
 exact GL.jump0 (fun _ _ h => h) () rfl ⟨(by rw [u106]; rfl), trivial⟩
 refine Zk u106 (Zk u106 (Zk u106 (Zn u106 ?_)))
 exact GL.jump0 (fun _ _ h => h) () rfl ⟨(by rw [u106]; rfl), trivial⟩
 refine Za (GL.nil ?_)
 exact Y1 I3 ⟨((b90 && ((r30 : Int) == 0)) && (((Sl.len r29 : Int) : Int) == 0)), rfl, h⟩
def Qfg (C : Ctx) (K : Option (Nat × Nat) → Heap → Prop) (H : Heap) : Prop :=
 mkM (fun b1 H2 =>
 mkM (fun b3 H4 =>
 nw (Qd.c (⟨(some b1), (some b3)⟩ : Qd)) (fun b5 H6 =>
 K (some (b5, 0)) H6) H4) H2) H
theorem Qhd (C : Ctx) (K : Option (Nat × Nat) → Heap → Prop) (H : Heap) (h : Qfg C  K H) : Qc7 C  K H := by
 refine Spec.enter Tryz.func9 rfl Tryz.ntmps9 rfl (GC.sub [] trivial (Zo (Za (GL.nil (Zo (GL.makeMap h trivial rfl ?_))))))
 intro b1 H2 h
 refine GL.makeMap h trivial rfl ?_
 intro b3 H4 h
 refine Zv (OV.build (vs := [(0, mv (some b1)), (1, mv (some b3))]) (v := .agg (Qd.c (⟨(some b1), (some b3)⟩ : Qd)).toArray) rfl (fun _ => by kernel_rfl)) (GL.box (v := .agg (Qd.c (⟨(some b1), (some b3)⟩ : Qd)).toArray) (cs := Qd.c (⟨(some b1), (some b3)⟩ : Qd)) h trivial rfl rfl rfl ?_)
 intro b5 H6 h
 refine Za (GL.nil ?_)
 exact Y1 I3 ⟨(some (b5, 0)), rfl, h⟩
def Qcs (C : Ctx) (p_x : Option (Nat × Nat)) (p_l : Sl) (K : Bool → Int → Heap → Prop) (H : Heap) : Prop :=
 ift (Option.isNone p_x)
 (K false 2 H)
 (QaY C p_l (fun r2 r3 H4 =>
 ift (!r3)
 (K false 4 H4)
 (nck p_x fun p6 =>
 ldM H4 (p6.1, p6.2 + 0) fun x8 =>
 lkM (fun x : Sl => (slv x : Value)) Sl.nil x8 r2 (fun x10 is11 =>
 ift is11
 (K false 0 H4)
 (QY C p_l (fun r14 H15 =>
 nck p_x fun p16 =>
 ldM H15 (p16.1, p16.2 + 0) fun x18 =>
 upS (fun x : Sl => (slv x : Value)) x18 r2 r14 (fun H20 =>
 nck p_x fun p21 =>
 ldM H20 (p21.1, p21.2 + 1) fun x23 =>
 rgM (fun x : Option (Nat × Nat) => (pv x : Value)) x23 (fun b25 H26 =>
 lp (α := Unit) () H26 (fun x27 J28 H29 =>
 nxB (fun x : Option (Nat × Nat) => (pv x : Value)) b25 (fun b30 H31 =>
 ift b30
 (enM (fun x : Option (Nat × Nat) => (pv x : Value)) b25 (fun k33 x34 =>
 Q9 C x34 r2 r14 (fun H36 =>
 J28 () H36) H31) H31)
 (K true 0 H31)) H29)) H20) H15) H4)) H4)) H)
theorem Qb9 (C p_x p_l K H) (h : Qcs C p_x p_l K H) : Qr C p_x p_l K H := by
 refine Ye Tryz.func10 rfl Tryz.ntmps10 [(0, pv p_x), (1, slv p_l)] (Zo (Za (Za (GL.nil (GC.seq (Zo (Zm (Zv (OV.eqlNil (p := p_x) rfl rfl rfl) (GL.nil (Yd h (fun u1 h => ?_) fun u1 h => ?_))))))))))
 refine Zo (Za (Za (GL.nil ?_)))
 exact Y2 I3 ⟨false, 2, rfl, h⟩
 refine GC.skip (Zo (Zm (Zc h Qbu ?_)))
 rintro _ H4 ⟨r2, r3, rfl, h⟩
 refine Zm (Yv (sv r2) rfl rfl (Yv (.bool r3) rfl rfl (Za (Za (GL.nil (GC.seq (Zo (Zm (Zv (OV.not rfl) (GL.nil (Yd h (fun u5 h => ?_) fun u5 h => ?_)))))))))))
 refine Zo (Za (Za (GL.nil ?_)))
 exact Y2 I3 ⟨false, 4, rfl, h⟩
 refine GC.skip (GC.seq (Zo (Zm ?_)))
 obtain ⟨p6, hp7, h⟩ := h
 refine Zv (OV.nilCheck (q := p_x) rfl hp7) (Zf (Yl h fun x8 h => ?_))
 refine Zm ?_
 obtain ⟨x10, is11, v12, h⟩ := h
 refine Zv (OV.lookup2 (v := .tuple #[slv x10, .bool is11]) (enc := (fun x : Sl => (slv x : Value))) (z := Sl.nil) (q := x8) (k := r2) (x := x10) (b := is11) rfl v12 rfl rfl rfl rfl rfl) (Zm (Yv (slv x10) rfl rfl (Yv (.bool is11) rfl rfl (Za (Za (GL.nil (Zo (Zm (GL.nil (Yd h (fun u13 h => ?_) fun u13 h => ?_))))))))))
 refine Zo (Za (Za (GL.nil ?_)))
 exact Y2 I3 ⟨false, 0, rfl, h⟩
 refine GC.skip (Zo (Zm (Zc h QcF ?_)))
 rintro _ H15 ⟨r14, rfl, h⟩
 refine Za (GL.nil (Zo (Zm ?_)))
 obtain ⟨p16, hp17, h⟩ := h
 refine Zv (OV.nilCheck (q := p_x) rfl hp17) (Zf (Yl h fun x18 h => ?_))
 refine Zm (Zm (GL.mapUpdateS (enc := (fun x : Sl => (slv x : Value))) (q := x18) (k := r2) (x := r14) h trivial rfl rfl rfl rfl rfl ?_))
 intro H20 h
 refine GL.nil (GC.seq (Zo (Zm ?_)))
 obtain ⟨p21, hp22, h⟩ := h
 refine Zv (OV.nilCheck (q := p_x) rfl hp22) (Zf (Yl h fun x23 h => ?_))
 refine GL.rangeQ (enc := (fun x : Option (Nat × Nat) => (pv x : Value))) (q := x23) h trivial rfl rfl rfl ?_
 intro b25 H26 h
 refine GL.nil (GC.block (Yp h (fun _ => [(1, slv r14), (6, sv r2), (43, pv (some (b25, 0)))]) ?_))
 intro x27 H29 J28 h
 refine Zo (GL.nextB (enc := (fun x : Option (Nat × Nat) => (pv x : Value))) (it := b25) h trivial rfl rfl rfl rfl rfl ?_)
 intro b30 H31 h
 refine GL.nil (GC.seq (Yd h (fun u32 h => ?_) fun u32 h => ?_))
 refine GC.skip (GC.block (Zo ?_))
 obtain ⟨k33, x34, v35, h⟩ := h
 refine Zv (OV.entryM (enc := (fun x : Option (Nat × Nat) => (pv x : Value))) (it := b25) (k := k33) (x := x34) (v := .tuple #[sv k33, pv x34]) rfl v35 rfl) (Yv (pv x34) rfl rfl (Za (GL.nil (GC.region (Zm (Zm (Zm (Zc h QdI ?_))))))))
 rintro _ H36 ⟨rfl, h⟩
 exact Yj I3 () h
 refine GC.exit_to (fun _ _ h => h) (Zo (Za (Za (GL.nil ?_))))
 exact Y2 I3 ⟨true, 0, rfl, h⟩
def Qb0 (C : Ctx) (p_x : Option (Nat × Nat)) (p_places : Sl) (p_values : Sl) (K : Sl → Int → Heap → Prop) (H : Heap) : Prop :=
 ift (Option.isNone p_x)
 (K Sl.nil 2 H)
 (ift (((Sl.len p_places : Int) : Int) != (Sl.len p_values : Int))
 (K Sl.nil 1 H)
 (QaY C p_values (fun r3 r4 H5 =>
 ift (!r4)
 (K Sl.nil 0 H5)
 (lp (α := Sl × Int) (Sl.nil, 0) H5 (fun x7 J8 H9 =>
 ift (decide ((x7.2 : Int) < (Sl.len p_places : Int)))
 (ixa p_places x7.2 fun p11 =>
 ldI H9 .i64 (p11.1, p11.2 + (x7.2 : Int).toNat * 1) fun x16 =>
 Qaq C x16 (fun r18 H19 =>
 apd ([sv []]) 16 x7.1 ([sv r18]) 1 (fun r20 H21 =>
 J8 (r20, (w .i64 (x7.2 + 1))) H21) H19) H9)
 (QcB C x7.1 [32] (fun r22 H23 =>
 nck p_x fun p24 =>
 ldM H23 (p24.1, p24.2 + 1) fun x26 =>
 lkM (fun x : Option (Nat × Nat) => (pv x : Value)) none x26 r22 (fun x28 is29 =>
 jn (α := Option (Nat × Nat)) (fun x32 H33 =>
 nck x32 fun p63 =>
 ldM H33 (p63.1, p63.2 + 1) fun x65 =>
 lkM (fun x : Option Nat => (mv x : Value)) none x65 r3 (fun x67 is68 =>
 Qag C x67 (fun r70 H71 =>
 K r70 0 H71) H33) H33)
 (fun J31 => ift (Option.isNone x28)
 (QV C p_places (fun r36 H37 =>
 mkM (fun b38 H39 =>
 nw (Qo.c (⟨r36, (some b38)⟩ : Qo)) (fun b40 H41 =>
 nck p_x fun p42 =>
 ldM H41 (p42.1, p42.2 + 0) fun x44 =>
 rgM (fun x : Sl => (slv x : Value)) x44 (fun b46 H47 =>
 lp (α := Unit) () H47 (fun x48 J49 H50 =>
 nxB (fun x : Sl => (slv x : Value)) b46 (fun b51 H52 =>
 ift b51
 (enM (fun x : Sl => (slv x : Value)) b46 (fun k54 x55 =>
 Q9 C (some (b40, 0)) k54 x55 (fun H57 =>
 J49 () H57) H52) H52)
 (nck p_x fun p58 =>
 ldM H52 (p58.1, p58.2 + 1) fun x60 =>
 upS (fun x : Option (Nat × Nat) => (pv x : Value)) x60 r22 (some (b40, 0)) (fun H62 =>
 J31 (some (b40, 0)) H62) H52)) H50)) H41) H39) H37) H23)
 (J31 x28 H23))) H23) H9)))) H))
theorem QbM (C p_x p_places p_values K H) (h : Qb0 C p_x p_places p_values K H) : Qe C p_x p_places p_values K H := by
 refine Ye Tryz.func11 rfl Tryz.ntmps11 [(0, pv p_x), (1, slv p_places), (2, slv p_values)] (Zo (Za (Za (GL.nil (GC.seq (GC.block (Zo (Zm (Zv (OV.eqlNil (p := p_x) rfl rfl rfl) (Za (GL.nil (Yd h (fun u1 h => ?_) fun u1 h => ?_))))))))))))
 refine Zo (Za (Za (GL.nil ?_)))
 exact Y2 I3 ⟨Sl.nil, 2, rfl, h⟩
 refine Zo (Zm (Zq (Zm (Zq (Zi (.bool (((Sl.len p_places : Int) : Int) != (Sl.len p_values : Int))) (Za (GL.nil (Yd h (fun u2 h => ?_) fun u2 h => ?_))))))))
 refine Zo (Za (Za (GL.nil ?_)))
 exact Y2 I3 ⟨Sl.nil, 1, rfl, h⟩
 refine GC.skip_to (fun _ _ h => h) (Zo (Zm (Zc h Qbu ?_)))
 rintro _ H5 ⟨r3, r4, rfl, h⟩
 refine Zm (Yv (sv r3) rfl rfl (Yv (.bool r4) rfl rfl (Za (Za (GL.nil (GC.seq (Zo (Zm (Zv (OV.not rfl) (GL.nil (Yd h (fun u6 h => ?_) fun u6 h => ?_)))))))))))
 refine Zo (Za (Za (GL.nil ?_)))
 exact Y2 I3 ⟨Sl.nil, 0, rfl, h⟩
 refine GC.skip (Zo (Za (GL.nil (GC.seq (Zo (Zm (Zq (Zm (GL.nil (GC.block (Yp h (fun x7 => [(10, slv x7.1), (35, .int .i64 x7.2), (0, pv p_x), (1, slv p_places), (8, sv r3), (33, slv p_places), (34, .int .i64 (Sl.len p_places : Int))]) ?_)))))))))))
 intro x7 H9 J8 h
 refine Zo (Zi (.bool (decide ((x7.2 : Int) < (Sl.len p_places : Int)))) (GL.nil (GC.seq (Yd h (fun u10 h => ?_) fun u10 h => ?_))))
 refine GC.skip (GC.seq (GC.block (Zo (Yx h fun p11 h => ?_))))
 refine Yl h fun x16 h => ?_
 refine Za (GL.nil (GC.region (Zm (Zm (Zc h QfU ?_)))))
 rintro _ H19 ⟨r18, rfl, h⟩
 refine GL.appendLit (s := x7.1) (ys := [sv r18]) (zc := [sv []]) (bytes := 16) h trivial rfl (fun _ => trivial) rfl (fun _ => rfl) (fun _ => rfl) (vs := [(0, sv r18)]) rfl ⟨9, fun _ => by kernel_rfl⟩ ⟨⟨_, _, _, rfl, rfl, rfl, rfl, rfl, rfl⟩⟩ rfl rfl ?_
 intro _ r20 H21 h
 refine Za (GL.nil_to (fun _ _ h => h) (GC.region (Zi (.int .i64 (w .i64 (x7.2 + 1))) (Zm ?_))))
 exact Yj I3 (r20, (w .i64 (x7.2 + 1))) h
 refine GC.exit_to (fun _ _ h => h) (Zo (Zm (Zc h QfV ?_)))
 rintro _ H23 ⟨r22, rfl, h⟩
 refine Za (GL.nil (Zo (Zm ?_)))
 obtain ⟨p24, hp25, h⟩ := h
 refine Zv (OV.nilCheck (q := p_x) rfl hp25) (Zf (Yl h fun x26 h => ?_))
 refine Zm ?_
 obtain ⟨x28, is29, v30, h⟩ := h
 refine Zv (OV.lookup1 (v := pv x28) (enc := (fun x : Option (Nat × Nat) => (pv x : Value))) (z := none) (q := x26) (k := r22) (x := x28) (b := is29) rfl v30 rfl rfl rfl rfl rfl) (Za (GL.nil ?_))
 obtain ⟨J31, h, hR34⟩ := h
 refine GC.join (α := Option (Nat × Nat)) J31 (fun x32 => [(14, pv x32), (8, sv r3)]) ?_ ?_
 refine Zo (Zm (Zv (OV.eqlNil (p := x28) rfl rfl rfl) (GL.nil (Yd h (fun u35 h => ?_) fun u35 h => ?_))))
 refine Zo (Zm (Zc h Qdf ?_))
 rintro _ H37 ⟨r36, rfl, h⟩
 refine GL.makeMap h trivial rfl ?_
 intro b38 H39 h
 refine Zv (OV.build (vs := [(0, slv r36), (1, mv (some b38))]) (v := .agg (Qo.c (⟨r36, (some b38)⟩ : Qo)).toArray) rfl (fun _ => by kernel_rfl)) (GL.box (v := .agg (Qo.c (⟨r36, (some b38)⟩ : Qo)).toArray) (cs := Qo.c (⟨r36, (some b38)⟩ : Qo)) h trivial rfl rfl rfl ?_)
 intro b40 H41 h
 refine Za (GL.nil (GC.seq (Zo (Zm ?_))))
 obtain ⟨p42, hp43, h⟩ := h
 refine Zv (OV.nilCheck (q := p_x) rfl hp43) (Zf (Yl h fun x44 h => ?_))
 refine GL.rangeQ (enc := (fun x : Sl => (slv x : Value))) (q := x44) h trivial rfl rfl rfl ?_
 intro b46 H47 h
 refine GL.nil (GC.block (Yp h (fun _ => [(0, pv p_x), (8, sv r3), (13, sv r22), (14, pv (some (b40, 0))), (64, pv (some (b46, 0)))]) ?_))
 intro x48 H50 J49 h
 refine Zo (GL.nextB (enc := (fun x : Sl => (slv x : Value))) (it := b46) h trivial rfl rfl rfl rfl rfl ?_)
 intro b51 H52 h
 refine GL.nil (GC.seq (Yd h (fun u53 h => ?_) fun u53 h => ?_))
 refine GC.skip (GC.block (Zo ?_))
 obtain ⟨k54, x55, v56, h⟩ := h
 refine Zv (OV.entryM (enc := (fun x : Sl => (slv x : Value))) (it := b46) (k := k54) (x := x55) (v := .tuple #[sv k54, slv x55]) rfl v56 rfl) (Yv (sv k54) rfl rfl (Yv (slv x55) rfl rfl (Za (Za (GL.nil (GC.region (Zm (Zm (Zm (Zc h QdI ?_))))))))))
 rintro _ H57 ⟨rfl, h⟩
 exact Yj I3 () h
 refine GC.exit_to (fun _ _ h => h) (GC.region (Zm ?_))
 obtain ⟨p58, hp59, h⟩ := h
 refine Zv (OV.nilCheck (q := p_x) rfl hp59) (Zf (Yl h fun x60 h => ?_))
 refine Zm (Zm (GL.mapUpdateS (enc := (fun x : Option (Nat × Nat) => (pv x : Value))) (q := x60) (k := r22) (x := (some (b40, 0))) h trivial rfl rfl rfl rfl rfl ?_))
 intro H62 h
 exact Yj I3 (some (b40, 0)) h
 exact Yk I3 x28 h
 intro x32 H33 h
 replace h := hR34 x32 H33 h
 refine Zo (Zm ?_)
 obtain ⟨p63, hp64, h⟩ := h
 refine Zv (OV.nilCheck (q := x32) rfl hp64) (Zf (Yl h fun x65 h => ?_))
 refine Zm ?_
 obtain ⟨x67, is68, v69, h⟩ := h
 refine Zv (OV.lookup1 (v := mv x67) (enc := (fun x : Option Nat => (mv x : Value))) (z := none) (q := x65) (k := r3) (x := x67) (b := is68) rfl v69 rfl rfl rfl rfl rfl) (Zc h QeG ?_)
 rintro _ H71 ⟨r70, rfl, h⟩
 refine Za (Za (GL.nil ?_))
 exact Y2 I3 ⟨r70, 0, rfl, h⟩
def QeQ (C : Ctx) (p_a : Qa) (p_b : Qa) (K : Bool → Heap → Prop) (H : Heap) : Prop :=
 nw (Qa.c p_a) (fun b1 H2 =>
 nw (Qa.c p_b) (fun b3 H4 =>
 ldI H4 .u8 ((b1, 0).1, (b1, 0).2 + 0) fun x5 =>
 ldI H4 .u8 ((b3, 0).1, (b3, 0).2 + 0) fun x7 =>
 jn (α := Bool) (fun b9 H17 =>
 jn (α := Bool) (fun b18 H26 =>
 jn (α := Bool) (fun b27 H37 =>
 K b27 H37)
 (fun J28 => ift b18
 (ldL H26 ((b1, 0).1, (b1, 0).2 + 3) fun x31 =>
 ldL H26 ((b3, 0).1, (b3, 0).2 + 3) fun x33 =>
 QaD C x31 x33 (fun r35 H36 =>
 J28 r35 H36) H26)
 (J28 false H26)))
 (fun J19 => ift b9
 (ldS H17 ((b1, 0).1, (b1, 0).2 + 2) fun x22 =>
 ldS H17 ((b3, 0).1, (b3, 0).2 + 2) fun x24 =>
 J19 (x22 == x24) H17)
 (J19 false H17)))
 (fun J10 => ift ((x5 : Int) == x7)
 (ldI H4 .i64 ((b1, 0).1, (b1, 0).2 + 1) fun x13 =>
 ldI H4 .i64 ((b3, 0).1, (b3, 0).2 + 1) fun x15 =>
 J10 ((x13 : Int) == x15) H4)
 (J10 false H4))) H2) H
theorem QgL (C p_a p_b K H) (h : QeQ C p_a p_b K H) : Q1 C p_a p_b K H := by
 refine Ye Tryz.func13 rfl Tryz.ntmps13 [(0, .agg (Qa.c p_a).toArray), (1, .agg (Qa.c p_b).toArray)] (Zo (GL.box (v := .agg (Qa.c p_a).toArray) (cs := Qa.c p_a) h trivial rfl rfl rfl ?_))
 intro b1 H2 h
 refine GL.box (v := .agg (Qa.c p_b).toArray) (cs := Qa.c p_b) h trivial rfl rfl rfl ?_
 intro b3 H4 h
 refine Za (GL.nil (Zo (Zf (Yl h fun x5 h => ?_))))
 refine Zf (Yl h fun x7 h => ?_)
 refine Zi (.bool ((x5 : Int) == x7)) (Zm ?_)
 obtain ⟨J10, h, hR11⟩ := h
 refine GL.cut (α := Bool) 6 J10 (fun b9 => [(16, .bool b9), (2, pv (some (b1, 0))), (3, pv (some (b3, 0)))]) ?_ ?_
 rcases h.em with ⟨u12, h⟩ | ⟨u12, h⟩
 refine Zu u12 Yf ?_
 obtain ⟨x13, v14, h⟩ := h
 refine Zu u12 (Yo v14) (Zu u12 Yf ?_)
 obtain ⟨x15, v16, h⟩ := h
 refine Zu u12 (Yo v16) (Zu u12 (OV.ibin (v := .bool ((x13 : Int) == x15)) rfl rfl rfl) (Zt u12 ?_))
 exact Yj I3 ((x13 : Int) == x15) h
 refine Zk u12 (Zk u12 (Zk u12 (Zk u12 (Zk u12 (Zn u12 ?_)))))
 exact Yj I3 false h
 intro b9 H17 h
 replace h := hR11 b9 H17 h
 refine Zm ?_
 obtain ⟨J19, h, hR20⟩ := h
 refine GL.cut (α := Bool) 6 J19 (fun b18 => [(23, .bool b18), (2, pv (some (b1, 0))), (3, pv (some (b3, 0)))]) ?_ ?_
 rcases h.em with ⟨u21, h⟩ | ⟨u21, h⟩
 refine Zu u21 Yf ?_
 obtain ⟨x22, v23, h⟩ := h
 refine Zu u21 (Yo v23) (Zu u21 Yf ?_)
 obtain ⟨x24, v25, h⟩ := h
 refine Zu u21 (Yo v25) (Zu u21 (OV.sbin (a := x22) (b := x24) (v := .bool (x22 == x24)) rfl rfl rfl) (Zt u21 ?_))
 exact Yj I3 (x22 == x24) h
 refine Zk u21 (Zk u21 (Zk u21 (Zk u21 (Zk u21 (Zn u21 ?_)))))
 exact Yj I3 false h
 intro b18 H26 h
 replace h := hR20 b18 H26 h
 refine Zm ?_
 obtain ⟨J28, h, hR29⟩ := h
 refine GL.cut (α := Bool) 6 J28 (fun b27 => [(30, .bool b27)]) ?_ ?_
 rcases h.em with ⟨u30, h⟩ | ⟨u30, h⟩
 refine Zu u30 Yf ?_
 obtain ⟨x31, v32, h⟩ := h
 refine Zu u30 (Yo v32) (Zu u30 Yf ?_)
 obtain ⟨x33, v34, h⟩ := h
 refine Zu u30 (Yo v34) (GL.call h (Yt u30) rfl Qdt (vs := [slv x31, slv x33]) rfl ?_)
 rintro _ H36 ⟨r35, rfl, h⟩
 refine Zt u30 ?_
 exact Yj I3 r35 h
 refine Zk u30 (Zk u30 (Zk u30 (Zk u30 (Zk u30 (Zn u30 ?_)))))
 exact Yj I3 false h
 intro b27 H37 h
 replace h := hR29 b27 H37 h
 refine Za (GL.nil ?_)
 exact Y1 I3 ⟨b27, rfl, h⟩
def QdA (C : Ctx) (p_a : Sl) (p_b : Sl) (K : Bool → Heap → Prop) (H : Heap) : Prop :=
 ift (((Sl.len p_a : Int) : Int) != (Sl.len p_b : Int))
 (K false H)
 (lp (α := Int) 0 H (fun x2 J3 H4 =>
 ift (decide ((x2 : Int) < (Sl.len p_a : Int)))
 (dr H4 fun Hs6 =>
 ixa p_a x2 fun p8 =>
 ldT Hs6 Qa.c (p8.1, p8.2 + (x2 : Int).toNat * 4) fun x13 =>
 ixa p_b x2 fun p15 =>
 ldT Hs6 Qa.c (p15.1, p15.2 + (x2 : Int).toNat * 4) fun x20 =>
 Q1 C x13 x20 (fun r23 H24 =>
 Heap.le Hs6 H24 ∧
 ift (!r23)
 (K false H24)
 (J3 (w .i64 (x2 + 1)) H24)) H4)
 (K true H4)))
theorem Qfs (C p_a p_b K H) (h : QdA C p_a p_b K H) : QaD C p_a p_b K H := by
 refine Ye Tryz.func14 rfl Tryz.ntmps14 [(0, slv p_a), (1, slv p_b)] (Zo (Za (GL.nil (GC.seq (Zo (Zm (Zq (Zm (Zq (Zi (.bool (((Sl.len p_a : Int) : Int) != (Sl.len p_b : Int))) (GL.nil (Yd h (fun u1 h => ?_) fun u1 h => ?_))))))))))))
 refine Zo (Za (GL.nil ?_))
 exact Y1 I3 ⟨false, rfl, h⟩
 refine GC.skip (GC.seq (Zo (Za (GL.nil (GC.block (Yp h (fun x2 => [(5, .int .i64 x2), (0, slv p_a), (1, slv p_b)]) ?_))))))
 intro x2 H4 J3 h
 refine GC.seq (Zo (Zm (Zm (Zq (Zi (.bool (decide ((x2 : Int) < (Sl.len p_a : Int)))) (GL.nil (Yd h (fun u5 h => ?_) fun u5 h => ?_)))))))
 refine GC.skip (GC.seq (GC.block (GC.seq ?_)))
 obtain ⟨Hs6, hle7, h⟩ := h
 refine GC.any (Hs := Hs6) (by kernel_rfl) hle7 (Zp 0 rfl Ym (Zp 1 rfl Ym ?_))
 obtain ⟨p8, ha9, hb10, u11, hd12, h⟩ := h
 refine Zp 2 rfl (OV.indexAddr rfl rfl rfl rfl ha9 hb10 u11 hd12) ?_
 obtain ⟨x13, v14, h⟩ := h
 refine Zp 3 rfl (OV.loadT rfl rfl rfl v14) (Zp 4 rfl Ym (Zp 5 rfl Ym ?_))
 obtain ⟨p15, ha16, hb17, u18, hd19, h⟩ := h
 refine Zp 6 rfl (OV.indexAddr rfl rfl rfl rfl ha16 hb17 u18 hd19) ?_
 obtain ⟨x20, v21, h⟩ := h
 refine Zp 7 rfl (OV.loadT rfl rfl rfl v21) (GA.eff 8 rfl (by kernel_rfl) (Zc h Qg4 ?_))
 rintro _ H24 ⟨r23, rfl, h⟩
 obtain ⟨hle22, h⟩ := h
 refine GA.back hle22 (Zp 9 rfl (OV.not rfl) (GA.done (by kernel_rfl) (GL.nil (Yd h (fun u25 h => ?_) fun u25 h => ?_))))
 refine Zo (Za (GL.nil ?_))
 exact Y1 I3 ⟨false, rfl, h⟩
 refine GC.skip_to (fun _ _ h => h) (GC.region (Zm (Zi (.int .i64 (w .i64 (x2 + 1))) (Za ?_))))
 exact Yj I3 (w .i64 (x2 + 1)) h
 refine GC.exit_to (fun _ _ h => h) (Zo (Za (GL.nil ?_)))
 exact Y1 I3 ⟨true, rfl, h⟩
def Qcq (C : Ctx) (p_x : Option (Nat × Nat)) (p_l : Sl) (K : Bool → Heap → Prop) (H : Heap) : Prop :=
 ift (Option.isNone p_x)
 (K false H)
 (QaY C p_l (fun r2 r3 H4 =>
 nck p_x fun p5 =>
 ldM H4 (p5.1, p5.2 + 0) fun x7 =>
 lkM (fun x : Sl => (slv x : Value)) Sl.nil x7 r2 (fun x9 is10 =>
 K (r3 && is10) H4) H4) H)
theorem Qb7 (C p_x p_l K H) (h : Qcq C p_x p_l K H) : QS C p_x p_l K H := by
 refine Ye Tryz.func16 rfl Tryz.ntmps16 [(0, pv p_x), (1, slv p_l)] (Zo (Za (GL.nil (GC.seq (Zo (Zm (Zv (OV.eqlNil (p := p_x) rfl rfl rfl) (GL.nil (Yd h (fun u1 h => ?_) fun u1 h => ?_)))))))))
 refine Zo (Za (GL.nil ?_))
 exact Y1 I3 ⟨false, rfl, h⟩
 refine GC.skip (Zo (Zm (Zc h Qbu ?_)))
 rintro _ H4 ⟨r2, r3, rfl, h⟩
 refine Zm (Yv (sv r2) rfl rfl (Yv (.bool r3) rfl rfl (Za (Za (GL.nil (Zo (Zm ?_)))))))
 obtain ⟨p5, hp6, h⟩ := h
 refine Zv (OV.nilCheck (q := p_x) rfl hp6) (Zf (Yl h fun x7 h => ?_))
 refine Zm ?_
 obtain ⟨x9, is10, v11, h⟩ := h
 refine Zv (OV.lookup2 (v := .tuple #[slv x9, .bool is10]) (enc := (fun x : Sl => (slv x : Value))) (z := Sl.nil) (q := x7) (k := r2) (x := x9) (b := is10) rfl v11 rfl rfl rfl rfl rfl) (Zm (Yv (slv x9) rfl rfl (Yv (.bool is10) rfl rfl (Za (Za (GL.nil (Zo (Zm (Zm (GL.cut0 2 [(28, .bool (r3 && is10))] ?_ ?_))))))))))
 rcases Bool.eq_false_or_eq_true r3 with u12 | u12
 refine Zu u12 Ym (Zt u12 ?_)
 exact GL.jump0 (fun _ _ h => h) () rfl ⟨(by rw [u12]; rfl), trivial⟩
 refine Zk u12 (Zn u12 ?_)
 exact GL.jump0 (fun _ _ h => h) () rfl ⟨(by rw [u12]; rfl), trivial⟩
 refine Za (GL.nil ?_)
 exact Y1 I3 ⟨(r3 && is10), rfl, h⟩
def Qcp (C : Ctx) (p_x : Option (Nat × Nat)) (p_l : Sl) (K : Bool → Int → Heap → Prop) (H : Heap) : Prop :=
 ift (Option.isNone p_x)
 (K false 2 H)
 (QaY C p_l (fun r2 r3 H4 =>
 ift (!r3)
 (K false 4 H4)
 (nck p_x fun p6 =>
 ldM H4 (p6.1, p6.2 + 0) fun x8 =>
 lkM (fun x : Sl => (slv x : Value)) Sl.nil x8 r2 (fun x10 is11 =>
 ift (!is11)
 (K false 0 H4)
 (nck p_x fun p14 =>
 ldM H4 (p14.1, p14.2 + 0) fun x16 =>
 delS (fun x : Sl => (slv x : Value)) x16 r2 (fun H18 =>
 nck p_x fun p19 =>
 ldM H18 (p19.1, p19.2 + 1) fun x21 =>
 rgM (fun x : Option (Nat × Nat) => (pv x : Value)) x21 (fun b23 H24 =>
 lp (α := Unit) () H24 (fun x25 J26 H27 =>
 nxB (fun x : Option (Nat × Nat) => (pv x : Value)) b23 (fun b28 H29 =>
 ift b28
 (enM (fun x : Option (Nat × Nat) => (pv x : Value)) b23 (fun k31 x32 =>
 Qbe C x32 p_l (fun r34 r35 H36 =>
 ift r35
 (nck x32 fun p38 =>
 ldM H36 (p38.1, p38.2 + 1) fun x40 =>
 lkM (fun x : Option Nat => (mv x : Value)) none x40 r34 (fun x42 is43 =>
 delS (fun x : Sl => (slv x : Value)) x42 r2 (fun H45 =>
 J26 () H45) H36) H36)
 (J26 () H36)) H29) H29)
 (K true 0 H29)) H27)) H18) H4)) H4)) H)
theorem Qb6 (C p_x p_l K H) (h : Qcp C p_x p_l K H) : Qw C p_x p_l K H := by
 refine Ye Tryz.func17 rfl Tryz.ntmps17 [(0, pv p_x), (1, slv p_l)] (Zo (Za (Za (GL.nil (GC.seq (Zo (Zm (Zv (OV.eqlNil (p := p_x) rfl rfl rfl) (GL.nil (Yd h (fun u1 h => ?_) fun u1 h => ?_))))))))))
 refine Zo (Za (Za (GL.nil ?_)))
 exact Y2 I3 ⟨false, 2, rfl, h⟩
 refine GC.skip (Zo (Zm (Zc h Qbu ?_)))
 rintro _ H4 ⟨r2, r3, rfl, h⟩
 refine Zm (Yv (sv r2) rfl rfl (Yv (.bool r3) rfl rfl (Za (Za (GL.nil (GC.seq (Zo (Zm (Zv (OV.not rfl) (GL.nil (Yd h (fun u5 h => ?_) fun u5 h => ?_)))))))))))
 refine Zo (Za (Za (GL.nil ?_)))
 exact Y2 I3 ⟨false, 4, rfl, h⟩
 refine GC.skip (GC.seq (Zo (Zm ?_)))
 obtain ⟨p6, hp7, h⟩ := h
 refine Zv (OV.nilCheck (q := p_x) rfl hp7) (Zf (Yl h fun x8 h => ?_))
 refine Zm ?_
 obtain ⟨x10, is11, v12, h⟩ := h
 refine Zv (OV.lookup2 (v := .tuple #[slv x10, .bool is11]) (enc := (fun x : Sl => (slv x : Value))) (z := Sl.nil) (q := x8) (k := r2) (x := x10) (b := is11) rfl v12 rfl rfl rfl rfl rfl) (Zm (Yv (slv x10) rfl rfl (Yv (.bool is11) rfl rfl (Za (Za (GL.nil (Zo (Zm (Zv (OV.not rfl) (GL.nil (Yd h (fun u13 h => ?_) fun u13 h => ?_)))))))))))
 refine Zo (Za (Za (GL.nil ?_)))
 exact Y2 I3 ⟨false, 0, rfl, h⟩
 refine GC.skip (Zo (Zm ?_))
 obtain ⟨p14, hp15, h⟩ := h
 refine Zv (OV.nilCheck (q := p_x) rfl hp15) (Zf (Yl h fun x16 h => ?_))
 refine Zm (GL.deleteM (enc := (fun x : Sl => (slv x : Value))) (q := x16) (k := r2) h trivial rfl rfl rfl rfl ?_)
 intro H18 h
 refine GL.nil (GC.seq (Zo (Zm ?_)))
 obtain ⟨p19, hp20, h⟩ := h
 refine Zv (OV.nilCheck (q := p_x) rfl hp20) (Zf (Yl h fun x21 h => ?_))
 refine GL.rangeQ (enc := (fun x : Option (Nat × Nat) => (pv x : Value))) (q := x21) h trivial rfl rfl rfl ?_
 intro b23 H24 h
 refine GL.nil (GC.block (Yp h (fun _ => [(1, slv p_l), (6, sv r2), (43, pv (some (b23, 0)))]) ?_))
 intro x25 H27 J26 h
 refine Zo (GL.nextB (enc := (fun x : Option (Nat × Nat) => (pv x : Value))) (it := b23) h trivial rfl rfl rfl rfl rfl ?_)
 intro b28 H29 h
 refine GL.nil (GC.seq (Yd h (fun u30 h => ?_) fun u30 h => ?_))
 refine GC.skip (GC.block (Zo ?_))
 obtain ⟨k31, x32, v33, h⟩ := h
 refine Zv (OV.entryM (enc := (fun x : Option (Nat × Nat) => (pv x : Value))) (it := b23) (k := k31) (x := x32) (v := .tuple #[sv k31, pv x32]) rfl v33 rfl) (Yv (pv x32) rfl rfl (Za (GL.nil (Zo (Zm (Zm (Zc h Qd7 ?_)))))))
 rintro _ H36 ⟨r34, r35, rfl, h⟩
 refine Zm (Yv (sv r34) rfl rfl (Yv (.bool r35) rfl rfl (Za (Za (GL.nil (Zo (Zm (GL.nil (Yd h (fun u37 h => ?_) fun u37 h => ?_)))))))))
 refine GC.region (Zm ?_)
 obtain ⟨p38, hp39, h⟩ := h
 refine Zv (OV.nilCheck (q := x32) rfl hp39) (Zf (Yl h fun x40 h => ?_))
 refine Zm ?_
 obtain ⟨x42, is43, v44, h⟩ := h
 refine Zv (OV.lookup1 (v := mv x42) (enc := (fun x : Option Nat => (mv x : Value))) (z := none) (q := x40) (k := r34) (x := x42) (b := is43) rfl v44 rfl rfl rfl rfl rfl) (Zm (GL.deleteM (enc := (fun x : Sl => (slv x : Value))) (q := x42) (k := r2) h trivial rfl rfl rfl rfl ?_))
 intro H45 h
 exact Yj I3 () h
 exact Yk I3 () h
 refine GC.exit_to (fun _ _ h => h) (Zo (Za (Za (GL.nil ?_))))
 exact Y2 I3 ⟨true, 0, rfl, h⟩
def QcV (C : Ctx) (p_a : Sl) (p_b : Sl) (K : Bool → Heap → Prop) (H : Heap) : Prop :=
 ift (((Sl.len p_a : Int) : Int) != (Sl.len p_b : Int))
 (K false H)
 (lp (α := Int) 0 H (fun x2 J3 H4 =>
 ift (decide ((x2 : Int) < (Sl.len p_a : Int)))
 (dr H4 fun Hs6 =>
 ixa p_a x2 fun p8 =>
 ldL Hs6 (p8.1, p8.2 + (x2 : Int).toNat * 1) fun x13 =>
 ixa p_b x2 fun p15 =>
 ldL Hs6 (p15.1, p15.2 + (x2 : Int).toNat * 1) fun x20 =>
 QaD C x13 x20 (fun r23 H24 =>
 Heap.le Hs6 H24 ∧
 ift (!r23)
 (K false H24)
 (J3 (w .i64 (x2 + 1)) H24)) H4)
 (K true H4)))
theorem QeZ (C p_a p_b K H) (h : QcV C p_a p_b K H) : QX C p_a p_b K H := by
 refine Ye Tryz.func18 rfl Tryz.ntmps18 [(0, slv p_a), (1, slv p_b)] (Zo (Za (GL.nil (GC.seq (Zo (Zm (Zq (Zm (Zq (Zi (.bool (((Sl.len p_a : Int) : Int) != (Sl.len p_b : Int))) (GL.nil (Yd h (fun u1 h => ?_) fun u1 h => ?_))))))))))))
 refine Zo (Za (GL.nil ?_))
 exact Y1 I3 ⟨false, rfl, h⟩
 refine GC.skip (GC.seq (Zo (Za (GL.nil (GC.block (Yp h (fun x2 => [(5, .int .i64 x2), (0, slv p_a), (1, slv p_b)]) ?_))))))
 intro x2 H4 J3 h
 refine GC.seq (Zo (Zm (Zm (Zq (Zi (.bool (decide ((x2 : Int) < (Sl.len p_a : Int)))) (GL.nil (Yd h (fun u5 h => ?_) fun u5 h => ?_)))))))
 refine GC.skip (GC.seq (GC.block (GC.seq ?_)))
 obtain ⟨Hs6, hle7, h⟩ := h
 refine GC.any (Hs := Hs6) (by kernel_rfl) hle7 (Zp 0 rfl Ym (Zp 1 rfl Ym ?_))
 obtain ⟨p8, ha9, hb10, u11, hd12, h⟩ := h
 refine Zp 2 rfl (OV.indexAddr rfl rfl rfl rfl ha9 hb10 u11 hd12) ?_
 obtain ⟨x13, v14, h⟩ := h
 refine Zp 3 rfl (Yo v14) (Zp 4 rfl Ym (Zp 5 rfl Ym ?_))
 obtain ⟨p15, ha16, hb17, u18, hd19, h⟩ := h
 refine Zp 6 rfl (OV.indexAddr rfl rfl rfl rfl ha16 hb17 u18 hd19) ?_
 obtain ⟨x20, v21, h⟩ := h
 refine Zp 7 rfl (Yo v21) (GA.eff 8 rfl (by kernel_rfl) (Zc h Qdt ?_))
 rintro _ H24 ⟨r23, rfl, h⟩
 obtain ⟨hle22, h⟩ := h
 refine GA.back hle22 (Zp 9 rfl (OV.not rfl) (GA.done (by kernel_rfl) (GL.nil (Yd h (fun u25 h => ?_) fun u25 h => ?_))))
 refine Zo (Za (GL.nil ?_))
 exact Y1 I3 ⟨false, rfl, h⟩
 refine GC.skip_to (fun _ _ h => h) (GC.region (Zm (Zi (.int .i64 (w .i64 (x2 + 1))) (Za ?_))))
 exact Yj I3 (w .i64 (x2 + 1)) h
 refine GC.exit_to (fun _ _ h => h) (Zo (Za (GL.nil ?_)))
 exact Y1 I3 ⟨true, rfl, h⟩
def Qco (C : Ctx) (p_x : Option (Nat × Nat)) (K : Sl → Heap → Prop) (H : Heap) : Prop :=
 ift (Option.isNone p_x)
 (K Sl.nil H)
 (nck p_x fun p2 =>
 ldM H (p2.1, p2.2 + 0) fun x4 =>
 Qag C x4 (fun r6 H7 =>
 K r6 H7) H)
theorem Qb5 (C p_x K H) (h : Qco C p_x K H) : QR C p_x K H := by
 refine Ye Tryz.func19 rfl Tryz.ntmps19 [(0, pv p_x)] (Zo (Za (GL.nil (GC.seq (Zo (Zm (Zv (OV.eqlNil (p := p_x) rfl rfl rfl) (GL.nil (Yd h (fun u1 h => ?_) fun u1 h => ?_)))))))))
 refine Zo (Za (GL.nil ?_))
 exact Y1 I3 ⟨Sl.nil, rfl, h⟩
 refine GC.skip (Zo (Zm ?_))
 obtain ⟨p2, hp3, h⟩ := h
 refine Zv (OV.nilCheck (q := p_x) rfl hp3) (Zf (Yl h fun x4 h => ?_))
 refine Zc h QeG ?_
 rintro _ H7 ⟨r6, rfl, h⟩
 refine Za (GL.nil ?_)
 exact Y1 I3 ⟨r6, rfl, h⟩
def Qcr (C : Ctx) (p_x : Option (Nat × Nat)) (K : Int → Heap → Prop) (H : Heap) : Prop :=
 ift (Option.isNone p_x)
 (K 0 H)
 (nck p_x fun p2 =>
 ldM H (p2.1, p2.2 + 0) fun x4 =>
 lnM x4 (fun m6 =>
 K (m6 : Int) H) H)
theorem Qb8 (C p_x K H) (h : Qcr C p_x K H) : QT C p_x K H := by
 refine Ye Tryz.func20 rfl Tryz.ntmps20 [(0, pv p_x)] (Zo (Za (GL.nil (GC.seq (Zo (Zm (Zv (OV.eqlNil (p := p_x) rfl rfl rfl) (GL.nil (Yd h (fun u1 h => ?_) fun u1 h => ?_)))))))))
 refine Zo (Za (GL.nil ?_))
 exact Y1 I3 ⟨0, rfl, h⟩
 refine GC.skip (Zo (Zm ?_))
 obtain ⟨p2, hp3, h⟩ := h
 refine Zv (OV.nilCheck (q := p_x) rfl hp3) (Zf (Yl h fun x4 h => ?_))
 obtain ⟨m6, hm7, h⟩ := h
 refine Zv (OV.lenMap (q := x4) (m := m6) hm7 rfl rfl) (Za (GL.nil ?_))
 exact Y1 I3 ⟨(m6 : Int), rfl, h⟩
def Qdz (C : Ctx) (K : Option (Nat × Nat) → Heap → Prop) (H : Heap) : Prop :=
 Qc7 C (fun r1 H2 =>
 Qf C 1 (fun r3 H4 =>
 Qg C [97] (fun r5 H6 =>
 nw ((Qa.c r3) ++ (Qa.c r5) ++ []) (fun b7 H8 =>
 Qf C 2 (fun r9 H10 =>
 Qg C [97] (fun r11 H12 =>
 nw ((Qa.c r9) ++ (Qa.c r11) ++ []) (fun b13 H14 =>
 Qf C 1 (fun r15 H16 =>
 Qg C [98] (fun r17 H18 =>
 nw ((Qa.c r15) ++ (Qa.c r17) ++ []) (fun b19 H20 =>
 Qf C 1 (fun r21 H22 =>
 nw ((Qa.c r21) ++ []) (fun b23 H24 =>
 nw ([slv (Sl.of (some (b7, 0)) 2 2), slv (Sl.of (some (b13, 0)) 2 2), slv (Sl.of (some (b19, 0)) 2 2), slv (Sl.of (some (b23, 0)) 1 1)]) (fun b25 H26 =>
 lp (α := Int) 0 H26 (fun x27 J28 H29 =>
 ift (decide ((x27 : Int) < (Sl.len (Sl.of (some (b25, 0)) 4 4) : Int)))
 (ixa (Sl.of (some (b25, 0)) 4 4) x27 fun p31 =>
 ldL H29 (p31.1, p31.2 + (x27 : Int).toNat * 1) fun x36 =>
 Qr C r1 x36 (fun r38 r39 H40 =>
 J28 (w .i64 (x27 + 1)) H40) H29)
 (K r1 H29))) H24) H22) H20) H18) H16) H14) H12) H10) H8) H6) H4) H2) H
theorem Qfr (C : Ctx) (K : Option (Nat × Nat) → Heap → Prop) (H : Heap) (h : Qdz C  K H) : QaB C  K H := by
 refine Spec.enter Tryz.func21 rfl Tryz.ntmps21 rfl (GC.sub [] trivial (Zo (Za (GL.nil (Zo (Zc h Qhr ?_))))))
 rintro _ H2 ⟨r1, rfl, h⟩
 refine Za (GL.nil (GC.seq (Zo (Zc h Qi ?_))))
 rintro _ H4 ⟨r3, rfl, h⟩
 refine Zc h Qj ?_
 rintro _ H6 ⟨r5, rfl, h⟩
 refine GL.buildSlice (cs := (Qa.c r3) ++ (Qa.c r5) ++ []) h trivial rfl (vs := [(0, .agg (Qa.c r3).toArray), (1, .agg (Qa.c r5).toArray)]) rfl ⟨36, fun _ => by kernel_rfl⟩ ?_
 intro b7 H8 h
 refine Zc h Qi ?_
 rintro _ H10 ⟨r9, rfl, h⟩
 refine Zc h Qj ?_
 rintro _ H12 ⟨r11, rfl, h⟩
 refine GL.buildSlice (cs := (Qa.c r9) ++ (Qa.c r11) ++ []) h trivial rfl (vs := [(0, .agg (Qa.c r9).toArray), (1, .agg (Qa.c r11).toArray)]) rfl ⟨36, fun _ => by kernel_rfl⟩ ?_
 intro b13 H14 h
 refine Zc h Qi ?_
 rintro _ H16 ⟨r15, rfl, h⟩
 refine Zc h Qj ?_
 rintro _ H18 ⟨r17, rfl, h⟩
 refine GL.buildSlice (cs := (Qa.c r15) ++ (Qa.c r17) ++ []) h trivial rfl (vs := [(0, .agg (Qa.c r15).toArray), (1, .agg (Qa.c r17).toArray)]) rfl ⟨36, fun _ => by kernel_rfl⟩ ?_
 intro b19 H20 h
 refine Zc h Qi ?_
 rintro _ H22 ⟨r21, rfl, h⟩
 refine GL.buildSlice (cs := (Qa.c r21) ++ []) h trivial rfl (vs := [(0, .agg (Qa.c r21).toArray)]) rfl ⟨36, fun _ => by kernel_rfl⟩ ?_
 intro b23 H24 h
 refine GL.buildSlice (cs := [slv (Sl.of (some (b7, 0)) 2 2), slv (Sl.of (some (b13, 0)) 2 2), slv (Sl.of (some (b19, 0)) 2 2), slv (Sl.of (some (b23, 0)) 1 1)]) h trivial rfl (vs := [(0, slv (Sl.of (some (b7, 0)) 2 2)), (1, slv (Sl.of (some (b13, 0)) 2 2)), (2, slv (Sl.of (some (b19, 0)) 2 2)), (3, slv (Sl.of (some (b23, 0)) 1 1))]) rfl ⟨24, fun _ => by kernel_rfl⟩ ?_
 intro b25 H26 h
 refine Zq (Zm (GL.nil (GC.block (Yp h (fun x27 => [(18, .int .i64 x27), (1, pv r1), (16, slv (Sl.of (some (b25, 0)) 4 4)), (17, .int .i64 (Sl.len (Sl.of (some (b25, 0)) 4 4) : Int))]) ?_))))
 intro x27 H29 J28 h
 refine Zo (Zi (.bool (decide ((x27 : Int) < (Sl.len (Sl.of (some (b25, 0)) 4 4) : Int)))) (GL.nil (GC.seq (Yd h (fun u30 h => ?_) fun u30 h => ?_))))
 refine GC.skip (GC.seq (GC.block (Zo (Yx h fun p31 h => ?_))))
 refine Yl h fun x36 h => ?_
 refine Za (GL.nil (GC.region (Zm (Zm (Zc h Q4 ?_)))))
 rintro _ H40 ⟨r38, r39, rfl, h⟩
 refine GL.nil_to (fun _ _ h => h) (GC.region (Zi (.int .i64 (w .i64 (x27 + 1))) (Zm ?_)))
 exact Yj I3 (w .i64 (x27 + 1)) h
 refine GC.exit_to (fun _ _ h => h) (Zo (Zm (Za (GL.nil ?_))))
 exact Y1 I3 ⟨r1, rfl, h⟩
def Qfj (C : Ctx) (p_n : Int) (K : Qa → Heap → Prop) (H : Heap) : Prop :=
 nw (Qa.c Qa.zero) (fun b1 H2 =>
 stT (b1, 0) (Qa.c (⟨2, p_n, [], Sl.nil⟩ : Qa)) (fun H3 =>
 ldT H3 Qa.c (b1, 0) fun x4 =>
 K x4 H3) H2) H
theorem Qhg (C p_n K H) (h : Qfj C p_n K H) : Qf C p_n K H := by
 refine Ye Tryz.func22 rfl Tryz.ntmps22 [(0, .int .i64 p_n)] (Zo (GL.alloc (cs := Qa.c Qa.zero) h trivial rfl rfl rfl ?_))
 intro b1 H2 h
 refine GL.nil (Zo (Zm (Zv (OV.build (vs := [(0, .int .u8 2), (1, .int .i64 p_n)]) (v := .agg (Qa.c (⟨2, p_n, [], Sl.nil⟩ : Qa)).toArray) rfl (fun _ => by kernel_rfl)) (GL.storeT (p := (b1, 0)) (vs := Qa.c (⟨2, p_n, [], Sl.nil⟩ : Qa)) h trivial rfl rfl rfl rfl ?_))))
 intro H3 h
 refine GL.nil ?_
 obtain ⟨x4, v5, h⟩ := h
 exact GC.ret (fun _ _ hf hs => Qf1 rfl (RV.cellT (p := (b1, 0)) (cs := Qa.c x4) rfl rfl rfl v5) hf hs ⟨x4, rfl, h⟩)
def QeP (C : Ctx) (p_s : Str) (K : Qa → Heap → Prop) (H : Heap) : Prop :=
 nw (Qa.c Qa.zero) (fun b1 H2 =>
 stT (b1, 0) (Qa.c (⟨4, 0, p_s, Sl.nil⟩ : Qa)) (fun H3 =>
 ldT H3 Qa.c (b1, 0) fun x4 =>
 K x4 H3) H2) H
theorem QgK (C p_s K H) (h : QeP C p_s K H) : Qg C p_s K H := by
 refine Ye Tryz.func23 rfl Tryz.ntmps23 [(0, sv p_s)] (Zo (GL.alloc (cs := Qa.c Qa.zero) h trivial rfl rfl rfl ?_))
 intro b1 H2 h
 refine GL.nil (Zo (Zm (Zv (OV.build (vs := [(0, .int .u8 4), (2, sv p_s)]) (v := .agg (Qa.c (⟨4, 0, p_s, Sl.nil⟩ : Qa)).toArray) rfl (fun _ => by kernel_rfl)) (GL.storeT (p := (b1, 0)) (vs := Qa.c (⟨4, 0, p_s, Sl.nil⟩ : Qa)) h trivial rfl rfl rfl rfl ?_))))
 intro H3 h
 refine GL.nil ?_
 obtain ⟨x4, v5, h⟩ := h
 exact GC.ret (fun _ _ hf hs => Qf1 rfl (RV.cellT (p := (b1, 0)) (cs := Qa.c x4) rfl rfl rfl v5) hf hs ⟨x4, rfl, h⟩)
def Qeq (C : Ctx) (p_x : Option (Nat × Nat)) (K : Option (Nat × Nat) → Heap → Prop) (H : Heap) : Prop :=
 ift (Option.isNone p_x)
 (K none H)
 (nck p_x fun p2 =>
 ldM H (p2.1, p2.2 + 0) fun x4 =>
 QaC C x4 (fun r6 H7 =>
 mkM (fun b8 H9 =>
 nw (Qd.c (⟨r6, (some b8)⟩ : Qd)) (fun b10 H11 =>
 K (some (b10, 0)) H11) H9) H7) H)
theorem Qek (C p_x K H) (h : Qeq C p_x K H) : Qbd C p_x K H := by
 refine Ye Tryz.func24 rfl Tryz.ntmps24 [(0, pv p_x)] (Zo (Za (GL.nil (GC.seq (Zo (Zm (Zv (OV.eqlNil (p := p_x) rfl rfl rfl) (GL.nil (Yd h (fun u1 h => ?_) fun u1 h => ?_)))))))))
 refine Zo (Za (GL.nil ?_))
 exact Y1 I3 ⟨none, rfl, h⟩
 refine GC.skip (Zo (Zm ?_))
 obtain ⟨p2, hp3, h⟩ := h
 refine Zv (OV.nilCheck (q := p_x) rfl hp3) (Zf (Yl h fun x4 h => ?_))
 refine Zc h Qaz ?_
 rintro _ H7 ⟨r6, rfl, h⟩
 refine GL.makeMap h trivial rfl ?_
 intro b8 H9 h
 refine Zv (OV.build (vs := [(0, mv r6), (1, mv (some b8))]) (v := .agg (Qd.c (⟨r6, (some b8)⟩ : Qd)).toArray) rfl (fun _ => by kernel_rfl)) (GL.box (v := .agg (Qd.c (⟨r6, (some b8)⟩ : Qd)).toArray) (cs := Qd.c (⟨r6, (some b8)⟩ : Qd)) h trivial rfl rfl rfl ?_)
 intro b10 H11 h
 refine Za (GL.nil ?_)
 exact Y1 I3 ⟨(some (b10, 0)), rfl, h⟩
def Qfh (C : Ctx) (p_l : Sl) (K : Str → Bool → Heap → Prop) (H : Heap) : Prop :=
 lp (α := Sl × Int) (Sl.nil, 0) H (fun x1 J2 H3 =>
 ift (decide ((x1.2 : Int) < (Sl.len p_l : Int)))
 (ixa p_l x1.2 fun p5 =>
 ldT H3 Qa.c (p5.1, p5.2 + (x1.2 : Int).toNat * 4) fun x10 =>
 nw (Qa.c Qa.zero) (fun b12 H13 =>
 stT (b12, 0) (Qa.c x10) (fun H14 =>
 ldT H14 Qa.c (b12, 0) fun x15 =>
 QP C x15 (fun r17 H18 =>
 ift ((r17 : Int) != 0)
 (K [] false H18)
 (ldT H18 Qa.c (b12, 0) fun x20 =>
 QdF C x1.1 x20 (fun r22 H23 =>
 J2 (r22, (w .i64 (x1.2 + 1))) H23) H18)) H14) H13) H3)
 (b2s x1.1 (fun t24 =>
 K t24 true H3) H3))
theorem Qhe (C p_l K H) (h : Qfh C p_l K H) : QaY C p_l K H := by
 refine Ye Tryz.func32 rfl Tryz.ntmps32 [(0, slv p_l)] (Zo (Za (Za (GL.nil (Zo (Za (GL.nil (GC.seq (Zo (Zm (Zq (Zm (GL.nil (GC.block (Yp h (fun x1 => [(4, slv x1.1), (9, .int .i64 x1.2), (7, slv p_l), (8, .int .i64 (Sl.len p_l : Int))]) ?_)))))))))))))))
 intro x1 H3 J2 h
 refine Zo (Zi (.bool (decide ((x1.2 : Int) < (Sl.len p_l : Int)))) (GL.nil (GC.seq (Yd h (fun u4 h => ?_) fun u4 h => ?_))))
 refine GC.skip (GC.seq (GC.block (Zo (Yx h fun p5 h => ?_))))
 obtain ⟨x10, v11, h⟩ := h
 refine Zv (OV.loadT rfl rfl rfl v11) (GL.alloc (cs := Qa.c Qa.zero) h trivial rfl rfl rfl ?_)
 intro b12 H13 h
 refine GL.storeT (p := (b12, 0)) (vs := Qa.c x10) h trivial rfl rfl rfl rfl ?_
 intro H14 h
 refine GL.nil (GC.seq (Zo ?_))
 obtain ⟨x15, v16, h⟩ := h
 refine Zv (OV.loadT rfl rfl rfl v16) (Zc h QcJ ?_)
 rintro _ H18 ⟨r17, rfl, h⟩
 refine Zi (.bool ((r17 : Int) != 0)) (GL.nil (Yd h (fun u19 h => ?_) fun u19 h => ?_))
 refine Zo (Za (Za (GL.nil ?_)))
 exact Y2 I3 ⟨[], false, rfl, h⟩
 refine GC.skip (GC.region (Zm ?_))
 obtain ⟨x20, v21, h⟩ := h
 refine Zv (OV.loadT rfl rfl rfl v21) (Zc h Qg3 ?_)
 rintro _ H23 ⟨r22, rfl, h⟩
 refine Za (GL.nil_to (fun _ _ h => h) (GC.region (Zi (.int .i64 (w .i64 (x1.2 + 1))) (Zm ?_))))
 exact Yj I3 (r22, (w .i64 (x1.2 + 1))) h
 refine GC.exit_to (fun _ _ h => h) (Zo (Zm ?_))
 obtain ⟨t24, h25, h26, h⟩ := h
 refine Zv (OV.b2s (b := x1.1) (s := t24) h25 h26 rfl rfl rfl rfl) (Za (Za (GL.nil ?_)))
 exact Y2 I3 ⟨t24, true, rfl, h⟩
def Qec (C : Ctx) (p_l : Sl) (K : Sl → Heap → Prop) (H : Heap) : Prop :=
 lp (α := Sl × Int) (Sl.nil, 0) H (fun x1 J2 H3 =>
 ift (decide ((x1.2 : Int) < (Sl.len p_l : Int)))
 (ixa p_l x1.2 fun p5 =>
 ldT H3 Qa.c (p5.1, p5.2 + (x1.2 : Int).toNat * 4) fun x10 =>
 nw (Qa.c Qa.zero) (fun b12 H13 =>
 stT (b12, 0) (Qa.c x10) (fun H14 =>
 ldT H14 Qa.c (b12, 0) fun x15 =>
 QaZ C x15 (fun r17 H18 =>
 apd (Qa.c Qa.zero) 56 x1.1 ((Qa.c r17) ++ []) 1 (fun r19 H20 =>
 J2 (r19, (w .i64 (x1.2 + 1))) H20) H18) H14) H13) H3)
 (K x1.1 H3))
theorem Qgf (C p_l K H) (h : Qec C p_l K H) : QY C p_l K H := by
 refine Ye Tryz.func33 rfl Tryz.ntmps33 [(0, slv p_l)] (Zo (Za (GL.nil (Zo (Za (GL.nil (GC.seq (Zo (Zm (Zq (Zm (GL.nil (GC.block (Yp h (fun x1 => [(3, slv x1.1), (8, .int .i64 x1.2), (6, slv p_l), (7, .int .i64 (Sl.len p_l : Int))]) ?_))))))))))))))
 intro x1 H3 J2 h
 refine Zo (Zi (.bool (decide ((x1.2 : Int) < (Sl.len p_l : Int)))) (GL.nil (GC.seq (Yd h (fun u4 h => ?_) fun u4 h => ?_))))
 refine GC.skip (GC.seq (GC.block (Zo (Yx h fun p5 h => ?_))))
 obtain ⟨x10, v11, h⟩ := h
 refine Zv (OV.loadT rfl rfl rfl v11) (GL.alloc (cs := Qa.c Qa.zero) h trivial rfl rfl rfl ?_)
 intro b12 H13 h
 refine GL.storeT (p := (b12, 0)) (vs := Qa.c x10) h trivial rfl rfl rfl rfl ?_
 intro H14 h
 refine GL.nil (GC.region (Zm ?_))
 obtain ⟨x15, v16, h⟩ := h
 refine Zv (OV.loadT rfl rfl rfl v16) (Zc h Qhs ?_)
 rintro _ H18 ⟨r17, rfl, h⟩
 refine GL.appendLit (s := x1.1) (ys := (Qa.c r17) ++ []) (zc := Qa.c Qa.zero) (bytes := 56) h trivial rfl (fun _ => trivial) rfl (fun _ => rfl) (fun _ => rfl) (vs := [(0, .agg (Qa.c r17).toArray)]) rfl ⟨36, fun _ => by kernel_rfl⟩ ⟨⟨_, _, _, rfl, rfl, rfl, rfl, rfl, rfl⟩⟩ rfl rfl ?_
 intro _ r19 H20 h
 refine Za (GL.nil_to (fun _ _ h => h) (GC.region (Zi (.int .i64 (w .i64 (x1.2 + 1))) (Zm ?_))))
 exact Yj I3 (r19, (w .i64 (x1.2 + 1))) h
 refine GC.exit_to (fun _ _ h => h) (Zo (Zm (Za (GL.nil ?_))))
 exact Y1 I3 ⟨x1.1, rfl, h⟩
def QdP (C : Ctx) (p_b : Option (Nat × Nat)) (p_k : Str) (p_l : Sl) (K : Heap → Prop) (H : Heap) : Prop :=
 Qbe C p_b p_l (fun r1 r2 H3 =>
 ift (!r2)
 (K H3)
 (jn (α := Unit) (fun x6 H7 =>
 nck p_b fun p24 =>
 ldM H7 (p24.1, p24.2 + 1) fun x26 =>
 lkM (fun x : Option Nat => (mv x : Value)) none x26 r1 (fun x28 is29 =>
 upS (fun x : Sl => (slv x : Value)) x28 p_k p_l (fun H31 =>
 K H31) H7) H7)
 (fun J5 => nck p_b fun p9 =>
 ldM H3 (p9.1, p9.2 + 1) fun x11 =>
 lkM (fun x : Option Nat => (mv x : Value)) none x11 r1 (fun x13 is14 =>
 ift x13.isNone
 (nck p_b fun p17 =>
 ldM H3 (p17.1, p17.2 + 1) fun x19 =>
 mkM (fun b21 H22 =>
 upS (fun x : Option Nat => (mv x : Value)) x19 r1 (some b21) (fun H23 =>
 J5 () H23) H22) H3)
 (J5 () H3)) H3))) H
theorem QfF (C p_b p_k p_l K H) (h : QdP C p_b p_k p_l K H) : Q9 C p_b p_k p_l K H := by
 refine Ye Tryz.func34 rfl Tryz.ntmps34 [(0, pv p_b), (1, sv p_k), (2, slv p_l)] (Zo (Zm (Zm (Zc h Qd7 ?_))))
 rintro _ H3 ⟨r1, r2, rfl, h⟩
 refine Zm (Yv (sv r1) rfl rfl (Yv (.bool r2) rfl rfl (Za (Za (GL.nil (GC.seq (Zo (Zm (Zv (OV.not rfl) (GL.nil (Yd h (fun u4 h => ?_) fun u4 h => ?_)))))))))))
 exact GC.ret (fun _ _ hf hs => QC rfl hf hs ⟨rfl, h⟩)
 refine GC.skip ?_
 obtain ⟨J5, h, hR8⟩ := h
 refine GC.join (α := Unit) J5 (fun _ => [(0, pv p_b), (1, sv p_k), (2, slv p_l), (6, sv r1)]) ?_ ?_
 refine Zo (Zm ?_)
 obtain ⟨p9, hp10, h⟩ := h
 refine Zv (OV.nilCheck (q := p_b) rfl hp10) (Zf (Yl h fun x11 h => ?_))
 refine Zm ?_
 obtain ⟨x13, is14, v15, h⟩ := h
 refine Zv (OV.lookup1 (v := mv x13) (enc := (fun x : Option Nat => (mv x : Value))) (z := none) (q := x11) (k := r1) (x := x13) (b := is14) rfl v15 rfl rfl rfl rfl rfl) (Zv (OV.eqlMap (q := x13) rfl rfl rfl) (GL.nil (Yd h (fun u16 h => ?_) fun u16 h => ?_)))
 refine GC.region (Zm ?_)
 obtain ⟨p17, hp18, h⟩ := h
 refine Zv (OV.nilCheck (q := p_b) rfl hp18) (Zf (Yl h fun x19 h => ?_))
 refine Zm (GL.makeMap h trivial rfl ?_)
 intro b21 H22 h
 refine GL.mapUpdateS (enc := (fun x : Option Nat => (mv x : Value))) (q := x19) (k := r1) (x := (some b21)) h trivial rfl rfl rfl rfl rfl ?_
 intro H23 h
 exact Yj I3 () h
 exact Yk I3 () h
 intro x6 H7 h
 replace h := hR8 x6 H7 h
 refine GC.region (Zm ?_)
 obtain ⟨p24, hp25, h⟩ := h
 refine Zv (OV.nilCheck (q := p_b) rfl hp25) (Zf (Yl h fun x26 h => ?_))
 refine Zm ?_
 obtain ⟨x28, is29, v30, h⟩ := h
 refine Zv (OV.lookup1 (v := mv x28) (enc := (fun x : Option Nat => (mv x : Value))) (z := none) (q := x26) (k := r1) (x := x28) (b := is29) rfl v30 rfl rfl rfl rfl rfl) (Zm (Zm (GL.mapUpdateS (enc := (fun x : Sl => (slv x : Value))) (q := x28) (k := p_k) (x := p_l) h trivial rfl rfl rfl rfl rfl ?_)))
 intro H31 h
 exact GL.ends (fun _ _ hf hs => QC rfl hf hs ⟨rfl, h⟩)
def QdQ (C : Ctx) (p_elems : Sl) (p_sep : Str) (K : Str → Heap → Prop) (H : Heap) : Prop :=
 ift (((Sl.len p_elems : Int) : Int) == 0)
 (K [] H)
 (ift (((Sl.len p_elems : Int) : Int) == 1)
 (ixa p_elems 0 fun p3 =>
 ldS H (p3.1, p3.2 + (0 : Int).toNat * 1) fun x8 =>
 K x8 H)
 (jn (α := Int) (fun x11 H12 =>
 lp (α := Int × Int) (x11, 0) H12 (fun x17 J18 H19 =>
 ift (decide ((x17.2 : Int) < (Sl.len p_elems : Int)))
 (ixa p_elems x17.2 fun p21 =>
 ldS H19 (p21.1, p21.2 + (x17.2 : Int).toNat * 1) fun x26 =>
 ift (decide (((List.length x26 : Int) : Int) > (w .i64 (9223372036854775807 - x17.1))))
 (False)
 (J18 ((w .i64 (x17.1 + (List.length x26 : Int))), (w .i64 (x17.2 + 1))) H19))
 (nwB 84 5 (fun b29 H30 =>
 Qt C (some (b29, 0)) x17.1 (fun H31 =>
 ixa p_elems 0 fun p32 =>
 ldS H31 (p32.1, p32.2 + (0 : Int).toNat * 1) fun x37 =>
 Qc C (some (b29, 0)) x37 (fun r39 r40 H41 =>
 slL p_elems 1 (Sl.len p_elems : Int) (Sl.cap p_elems : Int) 1 fun t42 =>
 lp (α := Int) 0 H41 (fun x48 J49 H50 =>
 ift (decide ((x48 : Int) < (Sl.len t42 : Int)))
 (ixa t42 x48 fun p52 =>
 ldS H50 (p52.1, p52.2 + (x48 : Int).toNat * 1) fun x57 =>
 Qc C (some (b29, 0)) p_sep (fun r59 r60 H61 =>
 Qc C (some (b29, 0)) x57 (fun r62 r63 H64 =>
 J49 (w .i64 (x48 + 1)) H64) H61) H50)
 (Qm C (some (b29, 0)) (fun r65 H66 =>
 K r65 H66) H50))) H31) H30) H19)))
 (fun J10 => ift (decide (((List.length p_sep : Int) : Int) > 0))
 ((w .i64 ((Sl.len p_elems : Int) - 1)) ≠ 0 ∧
 ift (decide (((List.length p_sep : Int) : Int) ≥ (w .i64 (Int.tdiv 9223372036854775807 (w .i64 ((Sl.len p_elems : Int) - 1))))))
 (False)
 (J10 (w .i64 (0 + (w .i64 ((List.length p_sep : Int) * (w .i64 ((Sl.len p_elems : Int) - 1)))))) H))
 (J10 0 H))))
theorem QfG (C p_elems p_sep K H) (h : QdQ C p_elems p_sep K H) : QcB C p_elems p_sep K H := by
 refine Ye Tryz.func36 rfl Tryz.ntmps36 [(0, slv p_elems), (1, sv p_sep)] (Zo (Za (GL.nil (GC.seq (Zo (Zm (Zq (GL.nil (GC.block (Zo (Zi (.bool (((Sl.len p_elems : Int) : Int) == 0)) (Za (GL.nil (Yd h (fun u1 h => ?_) fun u1 h => ?_))))))))))))))
 refine Zo (Za (GL.nil ?_))
 exact Y1 I3 ⟨[], rfl, h⟩
 refine Zo (Zi (.bool (((Sl.len p_elems : Int) : Int) == 1)) (Za (GL.nil (Yd h (fun u2 h => ?_) fun u2 h => ?_))))
 refine Zo (Zm (Yx h fun p3 h => ?_))
 refine Yl h fun x8 h => ?_
 refine Za (GL.nil ?_)
 exact Y1 I3 ⟨x8, rfl, h⟩
 refine GC.skip_to (fun _ _ h => h) (Zo (Za (GL.nil ?_)))
 obtain ⟨J10, h, hR13⟩ := h
 refine GC.join (α := Int) J10 (fun x11 => [(5, .int .i64 x11), (0, slv p_elems), (1, sv p_sep)]) ?_ ?_
 refine Zo (Zm (Zr (Zi (.bool (decide (((List.length p_sep : Int) : Int) > 0))) (GL.nil (Yd h (fun u14 h => ?_) fun u14 h => ?_)))))
 refine GC.seq (Zo (Zm (Zr (Zm (Zq (Zi (.int .i64 (w .i64 ((Sl.len p_elems : Int) - 1))) ?_))))))
 obtain ⟨hb15, h⟩ := h
 refine Zv (OV.quo rfl rfl hb15) (Zi (.bool (decide (((List.length p_sep : Int) : Int) ≥ (w .i64 (Int.tdiv 9223372036854775807 (w .i64 ((Sl.len p_elems : Int) - 1))))))) (GL.nil (Yd h (fun u16 h => ?_) fun u16 h => ?_)))
 exact GC.never h
 refine GC.skip (GC.region (Zm (Zm (Zr (Zm (Zq (Zi (.int .i64 (w .i64 ((Sl.len p_elems : Int) - 1))) (Zi (.int .i64 (w .i64 ((List.length p_sep : Int) * (w .i64 ((Sl.len p_elems : Int) - 1))))) (Zi (.int .i64 (w .i64 (0 + (w .i64 ((List.length p_sep : Int) * (w .i64 ((Sl.len p_elems : Int) - 1))))))) (Za ?_))))))))))
 exact Yj I3 (w .i64 (0 + (w .i64 ((List.length p_sep : Int) * (w .i64 ((Sl.len p_elems : Int) - 1)))))) h
 exact Yk I3 0 h
 intro x11 H12 h
 replace h := hR13 x11 H12 h
 refine GC.seq (Zo (Zm (Zq (Zm (GL.nil (GC.block (Yp h (fun x17 => [(5, .int .i64 x17.1), (41, .int .i64 x17.2), (0, slv p_elems), (1, sv p_sep), (39, slv p_elems), (40, .int .i64 (Sl.len p_elems : Int))]) ?_)))))))
 intro x17 H19 J18 h
 refine Zo (Zi (.bool (decide ((x17.2 : Int) < (Sl.len p_elems : Int)))) (GL.nil (GC.seq (Yd h (fun u20 h => ?_) fun u20 h => ?_))))
 refine GC.skip (GC.seq (GC.block (Zo (Yx h fun p21 h => ?_))))
 refine Yl h fun x26 h => ?_
 refine Za (GL.nil (GC.seq (Zo (Zm (Zr (Zm (Zi (.int .i64 (w .i64 (9223372036854775807 - x17.1))) (Zi (.bool (decide (((List.length x26 : Int) : Int) > (w .i64 (9223372036854775807 - x17.1))))) (GL.nil (Yd h (fun u28 h => ?_) fun u28 h => ?_))))))))))
 exact GC.never h
 refine GC.skip (GC.region (Zm (Zm (Zr (Zi (.int .i64 (w .i64 (x17.1 + (List.length x26 : Int)))) (Za (GL.nil_to (fun _ _ h => h) (GC.region (Zi (.int .i64 (w .i64 (x17.2 + 1))) (Zm ?_))))))))))
 exact Yj I3 ((w .i64 (x17.1 + (List.length x26 : Int))), (w .i64 (x17.2 + 1))) h
 refine GC.exit_to (fun _ _ h => h) (Zo (GL.allocB (T := 84) (e := 5) h trivial rfl rfl rfl ?_))
 intro b29 H30 h
 refine GL.nil (Zo (Zm (Zc h Qdg ?_)))
 rintro _ H31 ⟨rfl, h⟩
 refine GL.nil (Zo (Zm (Yx h fun p32 h => ?_)))
 refine Yl h fun x37 h => ?_
 refine Zc h QK ?_
 rintro _ H41 ⟨r39, r40, rfl, h⟩
 refine GL.nil (GC.seq (Zo (Zm ?_)))
 obtain ⟨h43, h44, h45, h46, t42, h47, h⟩ := h
 refine Zv (OV.sliceSl (s := p_elems) h43 h44 h45 h46 h47 rfl rfl rfl rfl rfl rfl rfl (fun h => by first | rfl | cases h) rfl rfl) (Zq (Zm (GL.nil (GC.block (Yp h (fun x48 => [(65, .int .i64 x48), (1, sv p_sep), (8, pv (some (b29, 0))), (63, slv t42), (64, .int .i64 (Sl.len t42 : Int))]) ?_)))))
 intro x48 H50 J49 h
 refine Zo (Zi (.bool (decide ((x48 : Int) < (Sl.len t42 : Int)))) (GL.nil (GC.seq (Yd h (fun u51 h => ?_) fun u51 h => ?_))))
 refine GC.skip (GC.seq (GC.block (Zo (Yx h fun p52 h => ?_))))
 refine Yl h fun x57 h => ?_
 refine Za (GL.nil (Zo (Zm (Zc h QK ?_))))
 rintro _ H61 ⟨r59, r60, rfl, h⟩
 refine GL.nil (GC.region (Zm (Zc h QK ?_)))
 rintro _ H64 ⟨r62, r63, rfl, h⟩
 refine GL.nil_to (fun _ _ h => h) (GC.region (Zi (.int .i64 (w .i64 (x48 + 1))) (Zm ?_)))
 exact Yj I3 (w .i64 (x48 + 1)) h
 refine GC.exit_to (fun _ _ h => h) (Zo (Zc h QcH ?_))
 rintro _ H66 ⟨r65, rfl, h⟩
 refine Za (GL.nil ?_)
 exact Y1 I3 ⟨r65, rfl, h⟩
def Qbi (C : Ctx) (p_s : Sl) (K : Sl → Heap → Prop) (H : Heap) : Prop :=
 ift (Sl.isNil p_s)
 (K Sl.nil H)
 (nw ([]) (fun b2 H3 =>
 apS ([.int .i64 0]) 8 (Sl.of (some (b2, 0)) 0 0) p_s (fun r4 H5 =>
 K r4 H5) H3) H)
theorem QcZ (C p_s K H) (h : Qbi C p_s K H) : QV C p_s K H := by
 refine Ye Tryz.func37 rfl Tryz.ntmps37 [(0, slv p_s)] (Zo (Za (GL.nil (GC.seq (Zo (Zm (Zv (OV.eqlSl (s := p_s) rfl rfl rfl) (GL.nil (Yd h (fun u1 h => ?_) fun u1 h => ?_)))))))))
 refine Zo (Za (GL.nil ?_))
 exact Y1 I3 ⟨Sl.nil, rfl, h⟩
 refine GC.skip (Zo (GL.buildSlice (cs := []) h trivial rfl (vs := []) rfl ⟨3, fun _ => by kernel_rfl⟩ ?_))
 intro b2 H3 h
 refine Zm (GL.appendS (s := (Sl.of (some (b2, 0)) 0 0)) (s2 := p_s) (zc := [.int .i64 0]) (bytes := 8) h trivial rfl rfl rfl ⟨⟨_, _, _, rfl, rfl, rfl, rfl, rfl, rfl⟩⟩ rfl ?_)
 intro r4 H5 h
 refine Za (GL.nil ?_)
 exact Y1 I3 ⟨r4, rfl, h⟩
def Qdl (C : Ctx) (p_r : Option Nat) (K : Sl → Heap → Prop) (H : Heap) : Prop :=
 rgM (fun x : Sl => (slv x : Value)) p_r (fun b1 H2 =>
 lp (α := Sl) Sl.nil H2 (fun x3 J4 H5 =>
 nxB (fun x : Sl => (slv x : Value)) b1 (fun b6 H7 =>
 ift b6
 (enM (fun x : Sl => (slv x : Value)) b1 (fun k9 x10 =>
 QY C x10 (fun r12 H13 =>
 apd ([slv Sl.nil]) 24 x3 ([slv r12]) 1 (fun r14 H15 =>
 J4 r14 H15) H13) H7) H7)
 (QN C x3 (.func (.func 53) (List.toArray []) (List.toArray []) : Value) (fun H16 =>
 K x3 H16) H7)) H5)) H
theorem Qew (C p_r K H) (h : Qdl C p_r K H) : Qag C p_r K H := by
 refine Ye Tryz.func38 rfl Tryz.ntmps38 [(0, mv p_r)] (Zo (Za (GL.nil (Zo (Za (GL.nil (GC.seq (Zo (Zm (GL.rangeQ (enc := (fun x : Sl => (slv x : Value))) (q := p_r) h trivial rfl rfl rfl ?_))))))))))
 intro b1 H2 h
 refine GL.nil (GC.block (Yp h (fun x3 => [(3, slv x3), (7, pv (some (b1, 0)))]) ?_))
 intro x3 H5 J4 h
 refine Zo (GL.nextB (enc := (fun x : Sl => (slv x : Value))) (it := b1) h trivial rfl rfl rfl rfl rfl ?_)
 intro b6 H7 h
 refine GL.nil (GC.seq (Yd h (fun u8 h => ?_) fun u8 h => ?_))
 refine GC.skip (GC.block (Zo ?_))
 obtain ⟨k9, x10, v11, h⟩ := h
 refine Zv (OV.entryM (enc := (fun x : Sl => (slv x : Value))) (it := b1) (k := k9) (x := x10) (v := .tuple #[sv k9, slv x10]) rfl v11 rfl) (Yv (slv x10) rfl rfl (Za (GL.nil (GC.region (Zm (Zm (Zc h QcF ?_)))))))
 rintro _ H13 ⟨r12, rfl, h⟩
 refine GL.appendLit (s := x3) (ys := [slv r12]) (zc := [slv Sl.nil]) (bytes := 24) h trivial rfl (fun _ => trivial) rfl (fun _ => rfl) (fun _ => rfl) (vs := [(0, slv r12)]) rfl ⟨24, fun _ => by kernel_rfl⟩ ⟨⟨_, _, _, rfl, rfl, rfl, rfl, rfl, rfl⟩⟩ rfl rfl ?_
 intro _ r14 H15 h
 refine Za ?_
 exact Yj I3 r14 h
 refine GC.exit_to (fun _ _ h => h) (Zo (Zm (Zc h QaN ?_)))
 rintro _ H16 ⟨rfl, h⟩
 refine GL.nil (Zo (Zm (Za (GL.nil ?_))))
 exact Y1 I3 ⟨x3, rfl, h⟩
def Qeb (C : Ctx) (p_b : Option (Nat × Nat)) (p_l : Sl) (K : Str → Bool → Heap → Prop) (H : Heap) : Prop :=
 nck p_b fun p1 =>
 ldL H (p1.1, p1.2 + 0) fun x3 =>
 lp (α := Sl × Int) (Sl.nil, 0) H (fun x5 J6 H7 =>
 ift (decide ((x5.2 : Int) < (Sl.len x3 : Int)))
 (ixa x3 x5.2 fun p9 =>
 ldI H7 .i64 (p9.1, p9.2 + (x5.2 : Int).toNat * 1) fun x14 =>
 ift ((decide ((x14 : Int) < 0)) || (decide ((x14 : Int) ≥ (Sl.len p_l : Int))))
 (K [] false H7)
 (ixa p_l x14 fun p18 =>
 ldT H7 Qa.c (p18.1, p18.2 + (x14 : Int).toNat * 4) fun x23 =>
 apd (Qa.c Qa.zero) 56 x5.1 ((Qa.c x23) ++ []) 1 (fun r25 H26 =>
 J6 (r25, (w .i64 (x5.2 + 1))) H26) H7))
 (QaY C x5.1 (fun r27 r28 H29 =>
 K r27 r28 H29) H7))
theorem Qge (C p_b p_l K H) (h : Qeb C p_b p_l K H) : Qbe C p_b p_l K H := by
 refine Ye Tryz.func42 rfl Tryz.ntmps42 [(0, pv p_b), (1, slv p_l)] (Zo (Za (Za (GL.nil (Zo (Za (GL.nil (GC.seq (Zo (Zm ?_))))))))))
 obtain ⟨p1, hp2, h⟩ := h
 refine Zv (OV.nilCheck (q := p_b) rfl hp2) (Zf (Yl h fun x3 h => ?_))
 refine Zq (Zm (GL.nil (GC.block (Yp h (fun x5 => [(6, slv x5.1), (14, .int .i64 x5.2), (1, slv p_l), (12, slv x3), (13, .int .i64 (Sl.len x3 : Int))]) ?_))))
 intro x5 H7 J6 h
 refine Zo (Zi (.bool (decide ((x5.2 : Int) < (Sl.len x3 : Int)))) (GL.nil (GC.seq (Yd h (fun u8 h => ?_) fun u8 h => ?_))))
 refine GC.skip (GC.seq (GC.block (Zo (Yx h fun p9 h => ?_))))
 refine Yl h fun x14 h => ?_
 refine Za (GL.nil (GC.seq (Zo (Zm (Zi (.bool (decide ((x14 : Int) < 0))) (Zm (GL.cut0 5 [(25, .bool ((decide ((x14 : Int) < 0)) || (decide ((x14 : Int) ≥ (Sl.len p_l : Int))))), (1, slv p_l), (6, slv x5.1), (8, .int .i64 x14), (12, slv x3), (13, .int .i64 (Sl.len x3 : Int)), (14, .int .i64 x5.2)] ?_ ?_)))))))
 rcases Zb (decide ((x14 : Int) < 0)) with u16 | u16
 refine Zk u16 (Zk u16 (Zk u16 (Zk u16 (Zt u16 ?_))))
 exact GL.jump0 (fun _ _ h => h) () rfl ⟨(by rw [u16]; rfl), rfl, rfl, rfl, rfl, rfl, rfl, trivial⟩
 refine Zu u16 Ym (Zu u16 Ym (Zu u16 (OV.lenSl rfl rfl) (Zu u16 (OV.ibin (v := .bool (decide ((x14 : Int) ≥ (Sl.len p_l : Int)))) rfl rfl rfl) (Zn u16 ?_))))
 exact GL.jump0 (fun _ _ h => h) () rfl ⟨(by rw [u16]; rfl), rfl, rfl, rfl, rfl, rfl, rfl, trivial⟩
 refine GL.nil (Yd h (fun u17 h => ?_) fun u17 h => ?_)
 refine Zo (Za (Za (GL.nil ?_)))
 exact Y2 I3 ⟨[], false, rfl, h⟩
 refine GC.skip (GC.region (Zm (Zm (Zm (Yx h fun p18 h => ?_)))))
 obtain ⟨x23, v24, h⟩ := h
 refine Zv (OV.loadT rfl rfl rfl v24) (GL.appendLit (s := x5.1) (ys := (Qa.c x23) ++ []) (zc := Qa.c Qa.zero) (bytes := 56) h trivial rfl (fun _ => trivial) rfl (fun _ => rfl) (fun _ => rfl) (vs := [(0, .agg (Qa.c x23).toArray)]) rfl ⟨36, fun _ => by kernel_rfl⟩ ⟨⟨_, _, _, rfl, rfl, rfl, rfl, rfl, rfl⟩⟩ rfl rfl ?_)
 intro _ r25 H26 h
 refine Za (GL.nil_to (fun _ _ h => h) (GC.region (Zi (.int .i64 (w .i64 (x5.2 + 1))) (Zm ?_))))
 exact Yj I3 (r25, (w .i64 (x5.2 + 1))) h
 refine GC.exit_to (fun _ _ h => h) (Zo (Zm (Zc h Qbu ?_)))
 rintro _ H29 ⟨r27, r28, rfl, h⟩
 refine Yv (sv r27) rfl rfl (Yv (.bool r28) rfl rfl (Za (Za (GL.nil ?_))))
 exact Y2 I3 ⟨r27, r28, rfl, h⟩
def Qef (C : Ctx) (p_v : Qa) (K : Int → Heap → Prop) (H : Heap) : Prop :=
 nw (Qa.c p_v) (fun b1 H2 =>
 ldT H2 Qa.c (b1, 0) fun x3 =>
 QQ C x3 65 (fun r5 H6 =>
 ift (decide ((r5 : Int) > 64))
 (K 65 H6)
 (ldT H6 Qa.c (b1, 0) fun x8 =>
 Qy C x8 (fun r10 r11 H12 =>
 ift (!r10)
 (K 4 H12)
 (ift (!r11)
 (K 40 H12)
 (K 0 H12))) H6)) H2) H
theorem Qgi (C p_v K H) (h : Qef C p_v K H) : QP C p_v K H := by
 refine Ye Tryz.func45 rfl Tryz.ntmps45 [(0, .agg (Qa.c p_v).toArray)] (Zo (GL.box (v := .agg (Qa.c p_v).toArray) (cs := Qa.c p_v) h trivial rfl rfl rfl ?_))
 intro b1 H2 h
 refine Za (GL.nil (GC.seq (Zo ?_)))
 obtain ⟨x3, v4, h⟩ := h
 refine Zv (OV.loadT rfl rfl rfl v4) (Zc h Qd8 ?_)
 rintro _ H6 ⟨r5, rfl, h⟩
 refine Zi (.bool (decide ((r5 : Int) > 64))) (GL.nil (Yd h (fun u7 h => ?_) fun u7 h => ?_))
 refine Zo (Za (GL.nil ?_))
 exact Y1 I3 ⟨65, rfl, h⟩
 refine GC.skip (GC.seq (Zo ?_))
 obtain ⟨x8, v9, h⟩ := h
 refine Zv (OV.loadT rfl rfl rfl v9) (Zc h Qcj ?_)
 rintro _ H12 ⟨r10, r11, rfl, h⟩
 refine Zm (Yv (.bool r10) rfl rfl (Yv (.bool r11) rfl rfl (Za (Za (GL.nil (GC.block (Zo (Zm (Zv (OV.not rfl) (Za (GL.nil (Yd h (fun u13 h => ?_) fun u13 h => ?_))))))))))))
 refine Zo (Za (GL.nil ?_))
 exact Y1 I3 ⟨4, rfl, h⟩
 refine Zo (Zm (Zv (OV.not rfl) (Za (GL.nil (Yd h (fun u14 h => ?_) fun u14 h => ?_)))))
 refine Zo (Za (GL.nil ?_))
 exact Y1 I3 ⟨40, rfl, h⟩
 refine GC.skip_to (fun _ _ h => h) (Zo (Za (GL.nil ?_)))
 exact Y1 I3 ⟨0, rfl, h⟩
def QeO (C : Ctx) (p_b : Sl) (p_v : Qa) (K : Sl → Heap → Prop) (H : Heap) : Prop :=
 nw (Qa.c p_v) (fun b1 H2 =>
 Qc6 C p_b (fun r3 H4 =>
 jn (α := Unit) (fun x6 H7 =>
 nck r3 fun p17 =>
 ldL H7 (p17.1, p17.2 + 0) fun x19 =>
 K x19 H7)
 (fun J5 => ldT H4 Qa.c (b1, 0) fun x9 =>
 QP C x9 (fun r11 H12 =>
 ift ((r11 : Int) == 0)
 (ldT H12 Qa.c (b1, 0) fun x14 =>
 QaU C r3 x14 (fun H16 =>
 J5 () H16) H12)
 (J5 () H12)) H4)) H2) H
theorem QgJ (C p_b p_v K H) (h : QeO C p_b p_v K H) : QdF C p_b p_v K H := by
 refine Ye Tryz.func46 rfl Tryz.ntmps46 [(0, slv p_b), (1, .agg (Qa.c p_v).toArray)] (Zo (GL.box (v := .agg (Qa.c p_v).toArray) (cs := Qa.c p_v) h trivial rfl rfl rfl ?_))
 intro b1 H2 h
 refine Za (GL.nil (Zo (Zm (Zc h Qgm ?_))))
 rintro _ H4 ⟨r3, rfl, h⟩
 refine Za (GL.nil ?_)
 obtain ⟨J5, h, hR8⟩ := h
 refine GC.join (α := Unit) J5 (fun _ => [(5, pv r3)]) ?_ ?_
 refine Zo ?_
 obtain ⟨x9, v10, h⟩ := h
 refine Zv (OV.loadT rfl rfl rfl v10) (Zc h QcJ ?_)
 rintro _ H12 ⟨r11, rfl, h⟩
 refine Zi (.bool ((r11 : Int) == 0)) (GL.nil (Yd h (fun u13 h => ?_) fun u13 h => ?_))
 refine GC.region (Zm ?_)
 obtain ⟨x14, v15, h⟩ := h
 refine Zv (OV.loadT rfl rfl rfl v15) (Zc h QcO ?_)
 rintro _ H16 ⟨rfl, h⟩
 exact Yj I3 () h
 exact Yk I3 () h
 intro x6 H7 h
 replace h := hR8 x6 H7 h
 refine Zo (Zm ?_)
 obtain ⟨p17, hp18, h⟩ := h
 refine Zv (OV.nilCheck (q := r3) rfl hp18) (Zf (Yl h fun x19 h => ?_))
 refine Za (GL.nil ?_)
 exact Y1 I3 ⟨x19, rfl, h⟩
def Qfi (C : Ctx) (p_v : Qa) (K : Qa → Heap → Prop) (H : Heap) : Prop :=
 nw (Qa.c p_v) (fun b1 H2 =>
 nw (Qa.c Qa.zero) (fun b3 H4 =>
 ldL H4 ((b1, 0).1, (b1, 0).2 + 3) fun x5 =>
 QY C x5 (fun r7 H8 =>
 st ((b1, 0).1, (b1, 0).2 + 3) (slv r7) (fun H9 =>
 ldT H9 Qa.c (b1, 0) fun x10 =>
 stT (b3, 0) (Qa.c x10) (fun H12 =>
 ldT H12 Qa.c (b3, 0) fun x13 =>
 K x13 H12) H9) H8) H4) H2) H
theorem Qhf (C p_v K H) (h : Qfi C p_v K H) : QaZ C p_v K H := by
 refine Ye Tryz.func47 rfl Tryz.ntmps47 [(0, .agg (Qa.c p_v).toArray)] (Zo (GL.box (v := .agg (Qa.c p_v).toArray) (cs := Qa.c p_v) h trivial rfl rfl rfl ?_))
 intro b1 H2 h
 refine GL.alloc (cs := Qa.c Qa.zero) h trivial rfl rfl rfl ?_
 intro b3 H4 h
 refine GL.nil (Zo (Zf (Yl h fun x5 h => ?_)))
 refine Zc h QcF ?_
 rintro _ H8 ⟨r7, rfl, h⟩
 refine Zf (GL.store (p := ((b1, 0).1, (b1, 0).2 + 3)) (v := slv r7) h trivial rfl rfl rfl rfl ?_)
 intro H9 h
 refine GL.nil (Zo ?_)
 obtain ⟨x10, v11, h⟩ := h
 refine Zv (OV.loadT rfl rfl rfl v11) (GL.storeT (p := (b3, 0)) (vs := Qa.c x10) h trivial rfl rfl rfl rfl ?_)
 intro H12 h
 refine GL.nil ?_
 obtain ⟨x13, v14, h⟩ := h
 exact GC.ret (fun _ _ hf hs => Qf1 rfl (RV.cellT (p := (b3, 0)) (cs := Qa.c x13) rfl rfl rfl v14) hf hs ⟨x13, rfl, h⟩)
def Qbj (C : Ctx) (p_b : Option (Nat × Nat)) (p_n : Int) (K : Heap → Prop) (H : Heap) : Prop :=
 QD C p_b (fun H1 =>
 ift (decide ((p_n : Int) < 0))
 (False)
 (nck p_b fun p3 =>
 ldL H1 (p3.1, p3.2 + 1) fun x5 =>
 nck p_b fun p7 =>
 ldL H1 (p7.1, p7.2 + 1) fun x9 =>
 ift (decide (((w .i64 ((Sl.cap x5 : Int) - (Sl.len x9 : Int))) : Int) < p_n))
 (QA C p_b p_n (fun H12 =>
 K H12) H1)
 (K H1))) H
theorem Qc0 (C p_b p_n K H) (h : Qbj C p_b p_n K H) : Qt C p_b p_n K H := by
 refine Ye Tryz.func49 rfl Tryz.ntmps49 [(0, pv p_b), (1, .int .i64 p_n)] (Zo (Zm (Zc h Qau ?_)))
 rintro _ H1 ⟨rfl, h⟩
 refine GL.nil (GC.seq (Zo (Zm (Zi (.bool (decide ((p_n : Int) < 0))) (GL.nil (Yd h (fun u2 h => ?_) fun u2 h => ?_))))))
 exact GC.never h
 refine GC.skip (GC.seq (GC.draw (by kernel_rfl) (by kernel_rfl) (GQ.val trivial rfl (OV.move (v := pv p_b) rfl) ?_)))
 obtain ⟨p3, hp4, h⟩ := h
 refine GQ.val trivial rfl (OV.nilCheck (q := p_b) rfl hp4) (GQ.val trivial rfl (OV.fieldAddr (p := p3) rfl rfl) ?_)
 obtain ⟨x5, v6, h⟩ := h
 refine GQ.val trivial rfl (OV.load (p := (p3.1, p3.2 + 1)) rfl rfl v6) (GQ.val trivial rfl (OV.cap (s := x5) rfl rfl rfl) (GQ.val trivial rfl (OV.move (v := pv p_b) rfl) ?_))
 obtain ⟨p7, hp8, h⟩ := h
 refine GQ.val trivial rfl (OV.nilCheck (q := p_b) rfl hp8) (GQ.val trivial rfl (OV.fieldAddr (p := p7) rfl rfl) ?_)
 obtain ⟨x9, v10, h⟩ := h
 refine GQ.val trivial rfl (OV.load (p := (p7.1, p7.2 + 1)) rfl rfl v10) (GQ.val trivial rfl (OV.lenSl (s := x9) rfl rfl) (GQ.val trivial rfl (OV.ibin (v := .int .i64 (w .i64 ((Sl.cap x5 : Int) - (Sl.len x9 : Int)))) rfl rfl rfl) (GQ.val trivial rfl (OV.move (v := .int .i64 p_n) rfl) (GQ.val trivial rfl (OV.ibin (v := .bool (decide (((w .i64 ((Sl.cap x5 : Int) - (Sl.len x9 : Int))) : Int) < p_n))) rfl rfl rfl) (GQ.nil (GL.nil (Yd h (fun u11 h => ?_) fun u11 h => ?_)))))))
 refine GC.region (Zm (Zm (Zc h Qdh ?_)))
 rintro _ H12 ⟨rfl, h⟩
 exact GL.ends (fun _ _ hf hs => QC rfl hf hs ⟨rfl, h⟩)
 exact GC.ends (fun _ _ hf hs => QC rfl hf hs ⟨rfl, h⟩)
def Qah (C : Ctx) (p_b : Option (Nat × Nat)) (p_s : Str) (K : Int → Value → Heap → Prop) (H : Heap) : Prop :=
 QD C p_b (fun H1 =>
 nck p_b fun p2 =>
 ldL H1 (p2.1, p2.2 + 1) fun x4 =>
 apdG 5 [.int .u8 0] 1 x4 (bytesV p_s) (List.length p_s) (fun r6 H7 =>
 nck p_b fun p8 =>
 sttG (p8.1, p8.2 + 1) (slv r6) (fun H10 =>
 K (List.length p_s : Int) .nilIface H10) H7) H1) H
theorem Qbs (C p_b p_s K H) (h : Qah C p_b p_s K H) : Qc C p_b p_s K H := by
 refine Ye Tryz.func50 rfl Tryz.ntmps50 [(0, pv p_b), (1, sv p_s)] (Zo (Za (Za (GL.nil (Zo (Zm (Zc h Qau ?_)))))))
 rintro _ H1 ⟨rfl, h⟩
 refine GL.nil (Zo (Zm (Zm ?_)))
 obtain ⟨p2, hp3, h⟩ := h
 refine Zv (OV.nilCheck (q := p_b) rfl hp3) (Zf (Yl h fun x4 h => ?_))
 refine Zm (GL.appendGStr (e := 5) (s := x4) (u := p_s) (bytes := 1) h trivial rfl rfl rfl ⟨⟨_, _, rfl, rfl, rfl, rfl, rfl, rfl⟩⟩ rfl ?_)
 intro r6 H7 h
 obtain ⟨p8, hp9, h⟩ := h
 refine Zv (OV.nilCheck (q := p_b) rfl hp9) (Zf (GL.storeG (p := (p8.1, p8.2 + 1)) (v := slv r6) h trivial rfl rfl rfl rfl ?_))
 intro H10 h
 refine GL.nil (Zo (Zm (Zr (Za (Za (GL.nil ?_))))))
 exact Y2 I3 ⟨(List.length p_s : Int), .nilIface, rfl, h⟩
def QaS (C : Ctx) (p_b : Option (Nat × Nat)) (K : Str → Heap → Prop) (H : Heap) : Prop :=
 dr H fun Hs1 =>
 nck p_b fun p3 =>
 ldL Hs1 (p3.1, p3.2 + 1) fun x5 =>
 ((Sl.p x5 = none ∨ Sl.cap x5 ≠ 0) ∧ Sl.x x5 = none) ∧
 nck p_b fun p9 =>
 ldL Hs1 (p9.1, p9.2 + 1) fun x11 =>
 ust 5 (Sl.p x5) (Sl.len x11 : Int) (fun r14 H15 =>
 Heap.le Hs1 H15 ∧
 K r14 H15) H
theorem Qcx (C p_b K H) (h : QaS C p_b K H) : Qm C p_b K H := by
 refine Ye Tryz.func51 rfl Tryz.ntmps51 [(0, pv p_b)] (Zo (Za (GL.nil (GC.seq ?_))))
 obtain ⟨Hs1, hle2, h⟩ := h
 refine GC.any (Hs := Hs1) (by kernel_rfl) hle2 (Zp 0 rfl Ym ?_)
 obtain ⟨p3, hp4, h⟩ := h
 refine Zp 1 rfl (OV.nilCheck (q := p_b) rfl hp4) (Zp 2 rfl Yf ?_)
 obtain ⟨x5, v6, h⟩ := h
 refine Zp 3 rfl (Yo v6) ?_
 obtain ⟨⟨h7, h8⟩, h⟩ := h
 refine Zp 4 rfl (OV.usd (s := x5) h7 h8 rfl) (Zp 5 rfl Ym ?_)
 obtain ⟨p9, hp10, h⟩ := h
 refine Zp 6 rfl (OV.nilCheck (q := p_b) rfl hp10) (Zp 7 rfl Yf ?_)
 obtain ⟨x11, v12, h⟩ := h
 refine Zp 8 rfl (Yo v12) (Zp 9 rfl (OV.lenSl rfl rfl) (GA.eff 10 rfl (by kernel_rfl) (GL.ust (e := 5) (p := (Sl.p x5)) (m := (Sl.len x11 : Int)) h trivial rfl rfl rfl rfl (by kernel_rfl) ?_)))
 intro r14 H15 h
 obtain ⟨hle13, h⟩ := h
 refine GA.back hle13 (Zp 11 rfl Ya (GA.done (by kernel_rfl) (GL.nil ?_)))
 exact Y1 I3 ⟨r14, rfl, h⟩
def QdB (C : Ctx) (p_a : Sl) (p_b : Sl) (K : Int → Heap → Prop) (H : Heap) : Prop :=
 Qdb C p_a (fun r1 H2 =>
 Qdb C p_b (fun r3 H4 =>
 ift ((!r1) || (!r3))
 (QdG C r1 r3 (fun r7 H8 =>
 K r7 H8) H4)
 (Qbt C p_a p_b (fun r9 H10 =>
 K r9 H10) H4)) H2) H
theorem Qft (C p_a p_b K H) (h : QdB C p_a p_b K H) : QbP C p_a p_b K H := by
 refine Ye Tryz.func53 rfl Tryz.ntmps53 [(0, slv p_a), (1, slv p_b)] (Zo (Za (GL.nil (GC.seq (Zo (Zm (Zc h Qfe ?_)))))))
 rintro _ H2 ⟨r1, rfl, h⟩
 refine Zm (Zc h Qfe ?_)
 rintro _ H4 ⟨r3, rfl, h⟩
 refine Za (Za (GL.nil (Zo (Zm (Zv (OV.not rfl) (Zm (GL.cut0 3 [(16, .bool ((!r1) || (!r3))), (0, slv p_a), (1, slv p_b), (5, .bool r1), (6, .bool r3)] ?_ ?_)))))))
 rcases Zb (!r1) with u5 | u5
 refine Zk u5 (Zk u5 (Zt u5 ?_))
 exact GL.jump0 (fun _ _ h => h) () rfl ⟨(by rw [u5]; rfl), rfl, rfl, rfl, rfl, trivial⟩
 refine Zu u5 Ym (Zu u5 (OV.not rfl) (Zn u5 ?_))
 exact GL.jump0 (fun _ _ h => h) () rfl ⟨(by rw [u5]; rfl), rfl, rfl, rfl, rfl, trivial⟩
 refine GL.nil (Yd h (fun u6 h => ?_) fun u6 h => ?_)
 refine Zo (Zm (Zm (Zc h Qg5 ?_)))
 rintro _ H8 ⟨r7, rfl, h⟩
 refine Za (GL.nil ?_)
 exact Y1 I3 ⟨r7, rfl, h⟩
 refine GC.skip (Zo (Zm (Zm (Zc h QeK ?_))))
 rintro _ H10 ⟨r9, rfl, h⟩
 refine Za (GL.nil ?_)
 exact Y1 I3 ⟨r9, rfl, h⟩
def Qeg (C : Ctx) (p_v : Qa) (p_most : Int) (K : Int → Heap → Prop) (H : Heap) : Prop :=
 nw (Qa.c p_v) (fun b1 H2 =>
 jn (α := Int) (fun x4 H5 =>
 K (w .i64 (x4 + 1)) H5)
 (fun J3 => ldL H2 ((b1, 0).1, (b1, 0).2 + 3) fun x7 =>
 lp (α := Int × Int) (0, 0) H2 (fun x9 J10 H11 =>
 ift (decide ((x9.2 : Int) < (Sl.len x7 : Int)))
 (ixa x7 x9.2 fun p13 =>
 ldT H11 Qa.c (p13.1, p13.2 + (x9.2 : Int).toNat * 4) fun x18 =>
 nw (Qa.c Qa.zero) (fun b20 H21 =>
 stT (b20, 0) (Qa.c x18) (fun H22 =>
 ift (decide ((x9.1 : Int) ≥ p_most))
 (J3 x9.1 H22)
 (ldT H22 Qa.c (b20, 0) fun x24 =>
 QQ C x24 (w .i64 (p_most - 1)) (fun r26 H27 =>
 J10 ((if r26 > x9.1 then r26 else x9.1 : Int), (w .i64 (x9.2 + 1))) H27) H22)) H21) H11)
 (J3 x9.1 H11)))) H
theorem Qgj (C p_v p_most K H) (h : Qeg C p_v p_most K H) : QQ C p_v p_most K H := by
 refine Ye Tryz.func59 rfl Tryz.ntmps59 [(0, .agg (Qa.c p_v).toArray), (1, .int .i64 p_most)] (Zo (GL.box (v := .agg (Qa.c p_v).toArray) (cs := Qa.c p_v) h trivial rfl rfl rfl ?_))
 intro b1 H2 h
 refine Za (GL.nil (Zo (Za (GL.nil ?_))))
 obtain ⟨J3, h, hR6⟩ := h
 refine GC.join (α := Int) J3 (fun x4 => [(5, .int .i64 x4)]) ?_ ?_
 refine Zo (Zf (Yl h fun x7 h => ?_))
 refine Zq (Zm (GL.nil (GC.block (Yp h (fun x9 => [(5, .int .i64 x9.1), (11, .int .i64 x9.2), (1, .int .i64 p_most), (9, slv x7), (10, .int .i64 (Sl.len x7 : Int))]) ?_))))
 intro x9 H11 J10 h
 refine Zo (Zi (.bool (decide ((x9.2 : Int) < (Sl.len x7 : Int)))) (GL.nil (GC.seq (Yd h (fun u12 h => ?_) fun u12 h => ?_))))
 refine GC.skip (GC.seq (GC.block (Zo (Yx h fun p13 h => ?_))))
 obtain ⟨x18, v19, h⟩ := h
 refine Zv (OV.loadT rfl rfl rfl v19) (GL.alloc (cs := Qa.c Qa.zero) h trivial rfl rfl rfl ?_)
 intro b20 H21 h
 refine GL.storeT (p := (b20, 0)) (vs := Qa.c x18) h trivial rfl rfl rfl rfl ?_
 intro H22 h
 refine GL.nil (GC.seq (Zo (Zm (Zm (Zi (.bool (decide ((x9.1 : Int) ≥ p_most))) (GL.nil (Yd h (fun u23 h => ?_) fun u23 h => ?_)))))))
 exact GC.exit_jump (fun _ _ h => h) x9.1 h ⟨rfl, trivial⟩
 refine GC.skip (GC.region (Zm ?_))
 obtain ⟨x24, v25, h⟩ := h
 refine Zv (OV.loadT rfl rfl rfl v25) (Zm (Zi (.int .i64 (w .i64 (p_most - 1))) (Zc h Qd8 ?_)))
 rintro _ H27 ⟨r26, rfl, h⟩
 refine Zv (OV.maxI rfl rfl) (Za (GL.nil_to (fun _ _ h => h) (GC.region (Zi (.int .i64 (w .i64 (x9.2 + 1))) (Zm ?_)))))
 exact Yj I3 ((if r26 > x9.1 then r26 else x9.1 : Int), (w .i64 (x9.2 + 1))) h
 exact GC.exit_jump (fun _ _ h => h) x9.1 h ⟨rfl, trivial⟩
 intro x4 H5 h
 replace h := hR6 x4 H5 h
 refine Zo (Zm (Zi (.int .i64 (w .i64 (x4 + 1))) (Za (GL.nil ?_))))
 exact Y1 I3 ⟨(w .i64 (x4 + 1)), rfl, h⟩
def Qcu (C : Ctx) (p_v : Qa) (K : Bool → Bool → Heap → Prop) (H : Heap) : Prop :=
 nw (Qa.c p_v) (fun b1 H2 =>
 ldI H2 .i64 ((b1, 0).1, (b1, 0).2 + 1) fun x3 =>
 jn (α := Bool) (fun b5 H11 =>
 jn (α := Bool) (fun b12 H18 =>
 jn (α := Bool × Bool) (fun x20 H21 =>
 ldL H21 ((b1, 0).1, (b1, 0).2 + 3) fun x149 =>
 lp (α := Bool × Bool × Int) (x20.1, x20.2, 0) H21 (fun x151 J152 H153 =>
 ift (decide ((x151.2.2 : Int) < (Sl.len x149 : Int)))
 (ixa x149 x151.2.2 fun p155 =>
 ldT H153 Qa.c (p155.1, p155.2 + (x151.2.2 : Int).toNat * 4) fun x160 =>
 nw (Qa.c Qa.zero) (fun b162 H163 =>
 stT (b162, 0) (Qa.c x160) (fun H164 =>
 ldT H164 Qa.c (b162, 0) fun x165 =>
 Qy C x165 (fun r167 r168 H169 =>
 J152 ((x151.1 && r167), (x151.2.1 && r168), (w .i64 (x151.2.2 + 1))) H169) H164) H163) H153)
 (K x151.1 x151.2.1 H153)))
 (fun J19 => ldI H18 .u8 ((b1, 0).1, (b1, 0).2 + 0) fun x23 =>
 ift ((x23 : Int) == 1)
 (ldI H18 .i64 ((b1, 0).1, (b1, 0).2 + 1) fun x26 =>
 jn (α := Bool) (fun b28 H34 =>
 jn (α := Bool) (fun b35 H41 =>
 jn (α := Bool) (fun b42 H48 =>
 J19 (b42, true) H48)
 (fun J43 => ift b35
 (ldL H41 ((b1, 0).1, (b1, 0).2 + 3) fun x46 =>
 J43 (((Sl.len x46 : Int) : Int) == 0) H41)
 (J43 false H41)))
 (fun J36 => ift b28
 (ldS H34 ((b1, 0).1, (b1, 0).2 + 2) fun x39 =>
 J36 (x39 == ([] : Str)) H34)
 (J36 false H34)))
 (fun J29 => ift ((x26 : Int) == 0)
 (J29 true H18)
 (ldI H18 .i64 ((b1, 0).1, (b1, 0).2 + 1) fun x32 =>
 J29 ((x32 : Int) == 1) H18)))
 (ift ((x23 : Int) == 2)
 (ldS H18 ((b1, 0).1, (b1, 0).2 + 2) fun x50 =>
 jn (α := Bool) (fun b52 H58 =>
 J19 (b52, true) H58)
 (fun J53 => ift (x50 == ([] : Str))
 (ldL H18 ((b1, 0).1, (b1, 0).2 + 3) fun x56 =>
 J53 (((Sl.len x56 : Int) : Int) == 0) H18)
 (J53 false H18)))
 (ift ((x23 : Int) == 3)
 (ldS H18 ((b1, 0).1, (b1, 0).2 + 2) fun x60 =>
 QcD C x60 (fun r62 r63 H64 =>
 jn (α := Bool) (fun b65 H71 =>
 jn (α := Bool) (fun b72 H78 =>
 J19 (b72, (decide ((r62 : Int) ≤ 200))) H78)
 (fun J73 => ift b65
 (ldL H71 ((b1, 0).1, (b1, 0).2 + 3) fun x76 =>
 J73 (((Sl.len x76 : Int) : Int) == 0) H71)
 (J73 false H71)))
 (fun J66 => ift r63
 (ldI H64 .i64 ((b1, 0).1, (b1, 0).2 + 1) fun x69 =>
 J66 ((x69 : Int) == 0) H64)
 (J66 false H64))) H18)
 (ift ((x23 : Int) == 4)
 (jn (α := Bool × Bool) (fun x81 H82 =>
 J19 (x81.1, x81.2) H82)
 (fun J80 => dr H18 fun Hs84 =>
 ldI Hs84 .i64 ((b1, 0).1, (b1, 0).2 + 1) fun x86 =>
 ldS Hs84 ((b1, 0).1, (b1, 0).2 + 2) fun x88 =>
 ift ((x86 : Int) == 0)
 (ldL Hs84 ((b1, 0).1, (b1, 0).2 + 3) fun x91 =>
 J80 ((((Sl.len x91 : Int) : Int) == 0), (decide (((List.length x88 : Int) : Int) ≤ 4096))) H18)
 (J80 (false, (decide (((List.length x88 : Int) : Int) ≤ 4096))) H18)))
 (ift ((x23 : Int) == 5)
 (jn (α := Bool × Bool) (fun x95 H96 =>
 J19 (x95.1, x95.2) H96)
 (fun J94 => dr H18 fun Hs98 =>
 ldI Hs98 .i64 ((b1, 0).1, (b1, 0).2 + 1) fun x100 =>
 ldL Hs98 ((b1, 0).1, (b1, 0).2 + 3) fun x102 =>
 ift ((x100 : Int) == 0)
 (ldS Hs98 ((b1, 0).1, (b1, 0).2 + 2) fun x105 =>
 ift (x105 == ([] : Str))
 (ldL Hs98 ((b1, 0).1, (b1, 0).2 + 3) fun x108 =>
 J94 ((((Sl.len x108 : Int) : Int) != 1), (decide (((Sl.len x102 : Int) : Int) ≤ 16))) H18)
 (J94 (false, (decide (((Sl.len x102 : Int) : Int) ≤ 16))) H18))
 (J94 (false, (decide (((Sl.len x102 : Int) : Int) ≤ 16))) H18)))
 (ift ((x23 : Int) == 6)
 (ldS H18 ((b1, 0).1, (b1, 0).2 + 2) fun x111 =>
 Qc9 C x111 [46] (fun r113 r114 r115 H116 =>
 jn (α := Bool × Bool) (fun x118 H119 =>
 J19 (x118.1, x118.2) H119)
 (fun J117 => dr H116 fun Hs121 =>
 ldI Hs121 .i64 ((b1, 0).1, (b1, 0).2 + 1) fun x123 =>
 ldL Hs121 ((b1, 0).1, (b1, 0).2 + 3) fun x125 =>
 ift ((x123 : Int) == 0)
 (Qa2 C r113 (fun r129 H130 =>
 Heap.le Hs121 H130 ∧
 ift r129
 (ift r115
 (Qa2 C r114 (fun r134 H135 =>
 Heap.le Hs121 H135 ∧
 ift r134
 (J117 (true, (decide (((Sl.len x125 : Int) : Int) ≤ 8))) H135)
 (ift (!r115)
 (ldS Hs121 ((b1, 0).1, (b1, 0).2 + 2) fun x138 =>
 ift (!(x138 == ([116, 114, 117, 101] : Str)))
 (ldS Hs121 ((b1, 0).1, (b1, 0).2 + 2) fun x141 =>
 J117 ((!(x141 == ([102, 97, 108, 115, 101] : Str))), (decide (((Sl.len x125 : Int) : Int) ≤ 8))) H135)
 (J117 (false, (decide (((Sl.len x125 : Int) : Int) ≤ 8))) H135))
 (J117 (false, (decide (((Sl.len x125 : Int) : Int) ≤ 8))) H135))) H130)
 (ift (!r115)
 (ldS Hs121 ((b1, 0).1, (b1, 0).2 + 2) fun x144 =>
 ift (!(x144 == ([116, 114, 117, 101] : Str)))
 (ldS Hs121 ((b1, 0).1, (b1, 0).2 + 2) fun x147 =>
 J117 ((!(x147 == ([102, 97, 108, 115, 101] : Str))), (decide (((Sl.len x125 : Int) : Int) ≤ 8))) H130)
 (J117 (false, (decide (((Sl.len x125 : Int) : Int) ≤ 8))) H130))
 (J117 (false, (decide (((Sl.len x125 : Int) : Int) ≤ 8))) H130)))
 (J117 (false, (decide (((Sl.len x125 : Int) : Int) ≤ 8))) H130)) H116)
 (J117 (false, (decide (((Sl.len x125 : Int) : Int) ≤ 8))) H116))) H18)
 (J19 (false, true) H18))))))))
 (fun J13 => ift b5
 (ldL H11 ((b1, 0).1, (b1, 0).2 + 3) fun x16 =>
 J13 (((Sl.len x16 : Int) : Int) == 0) H11)
 (J13 false H11)))
 (fun J6 => ift ((x3 : Int) == 0)
 (ldS H2 ((b1, 0).1, (b1, 0).2 + 2) fun x9 =>
 J6 (x9 == ([] : Str)) H2)
 (J6 false H2))) H
theorem Qez (C p_v K H) (h : Qcu C p_v K H) : Qy C p_v K H := by
 refine Ye Tryz.func60 rfl Tryz.ntmps60 [(0, .agg (Qa.c p_v).toArray)] (Zo (GL.box (v := .agg (Qa.c p_v).toArray) (cs := Qa.c p_v) h trivial rfl rfl rfl ?_))
 intro b1 H2 h
 refine Za (Za (GL.nil (Zo (Zf (Yl h fun x3 h => ?_)))))
 refine Zi (.bool ((x3 : Int) == 0)) (Zm ?_)
 obtain ⟨J6, h, hR7⟩ := h
 refine GL.cut (α := Bool) 4 J6 (fun b5 => [(20, .bool b5), (1, pv (some (b1, 0)))]) ?_ ?_
 rcases h.em with ⟨u8, h⟩ | ⟨u8, h⟩
 refine Zu u8 Yf ?_
 obtain ⟨x9, v10, h⟩ := h
 refine Zu u8 (Yo v10) (Zu u8 (OV.sbin (a := x9) (b := ([] : Str)) (v := .bool (x9 == ([] : Str))) rfl rfl rfl) (Zt u8 ?_))
 exact Yj I3 (x9 == ([] : Str)) h
 refine Zk u8 (Zk u8 (Zk u8 (Zn u8 ?_)))
 exact Yj I3 false h
 intro b5 H11 h
 replace h := hR7 b5 H11 h
 refine Zm ?_
 obtain ⟨J13, h, hR14⟩ := h
 refine GL.cut (α := Bool) 5 J13 (fun b12 => [(26, .bool b12), (1, pv (some (b1, 0)))]) ?_ ?_
 rcases h.em with ⟨u15, h⟩ | ⟨u15, h⟩
 refine Zu u15 Yf ?_
 obtain ⟨x16, v17, h⟩ := h
 refine Zu u15 (Yo v17) (Zu u15 (OV.lenSl rfl rfl) (Zu u15 (OV.ibin (v := .bool (((Sl.len x16 : Int) : Int) == 0)) rfl rfl rfl) (Zt u15 ?_)))
 exact Yj I3 (((Sl.len x16 : Int) : Int) == 0) h
 refine Zk u15 (Zk u15 (Zk u15 (Zk u15 (Zn u15 ?_))))
 exact Yj I3 false h
 intro b12 H18 h
 replace h := hR14 b12 H18 h
 refine Za (Za (GL.nil ?_))
 obtain ⟨J19, h, hR22⟩ := h
 refine GC.join (α := Bool × Bool) J19 (fun x20 => [(2, .bool x20.1), (3, .bool x20.2), (1, pv (some (b1, 0)))]) ?_ ?_
 refine Zo (Zf (Yl h fun x23 h => ?_))
 refine GL.nil (GC.block (Zo (Zi (.bool ((x23 : Int) == 1)) (Za (GL.nil (Yd h (fun u25 h => ?_) fun u25 h => ?_))))))
 refine GC.region (Zf (Yl h fun x26 h => ?_))
 refine Zi (.bool ((x26 : Int) == 0)) (Zm ?_)
 obtain ⟨J29, h, hR30⟩ := h
 refine GL.cut (α := Bool) 4 J29 (fun b28 => [(38, .bool b28), (1, pv (some (b1, 0))), (3, .bool true)]) ?_ ?_
 rcases h.em with ⟨u31, h⟩ | ⟨u31, h⟩
 refine Zk u31 (Zk u31 (Zk u31 (Zt u31 ?_)))
 exact Yj I3 true h
 refine Zu u31 Yf ?_
 obtain ⟨x32, v33, h⟩ := h
 refine Zu u31 (Yo v33) (Zu u31 (OV.ibin (v := .bool ((x32 : Int) == 1)) rfl rfl rfl) (Zn u31 ?_))
 exact Yj I3 ((x32 : Int) == 1) h
 intro b28 H34 h
 replace h := hR30 b28 H34 h
 refine Zm ?_
 obtain ⟨J36, h, hR37⟩ := h
 refine GL.cut (α := Bool) 4 J36 (fun b35 => [(43, .bool b35), (1, pv (some (b1, 0))), (3, .bool true)]) ?_ ?_
 rcases h.em with ⟨u38, h⟩ | ⟨u38, h⟩
 refine Zu u38 Yf ?_
 obtain ⟨x39, v40, h⟩ := h
 refine Zu u38 (Yo v40) (Zu u38 (OV.sbin (a := x39) (b := ([] : Str)) (v := .bool (x39 == ([] : Str))) rfl rfl rfl) (Zt u38 ?_))
 exact Yj I3 (x39 == ([] : Str)) h
 refine Zk u38 (Zk u38 (Zk u38 (Zn u38 ?_)))
 exact Yj I3 false h
 intro b35 H41 h
 replace h := hR37 b35 H41 h
 refine Zm ?_
 obtain ⟨J43, h, hR44⟩ := h
 refine GL.cut (α := Bool) 5 J43 (fun b42 => [(49, .bool b42), (1, pv (some (b1, 0))), (3, .bool true)]) ?_ ?_
 rcases h.em with ⟨u45, h⟩ | ⟨u45, h⟩
 refine Zu u45 Yf ?_
 obtain ⟨x46, v47, h⟩ := h
 refine Zu u45 (Yo v47) (Zu u45 (OV.lenSl rfl rfl) (Zu u45 (OV.ibin (v := .bool (((Sl.len x46 : Int) : Int) == 0)) rfl rfl rfl) (Zt u45 ?_)))
 exact Yj I3 (((Sl.len x46 : Int) : Int) == 0) h
 refine Zk u45 (Zk u45 (Zk u45 (Zk u45 (Zn u45 ?_))))
 exact Yj I3 false h
 intro b42 H48 h
 replace h := hR44 b42 H48 h
 refine Za ?_
 exact Yj I3 (b42, true) h
 refine Zo (Zi (.bool ((x23 : Int) == 2)) (Za (GL.nil (Yd h (fun u49 h => ?_) fun u49 h => ?_))))
 refine GC.region (Zf (Yl h fun x50 h => ?_))
 refine Zv (OV.sbin (a := x50) (b := ([] : Str)) (v := .bool (x50 == ([] : Str))) rfl rfl rfl) (Zm ?_)
 obtain ⟨J53, h, hR54⟩ := h
 refine GL.cut (α := Bool) 5 J53 (fun b52 => [(60, .bool b52), (1, pv (some (b1, 0))), (3, .bool true)]) ?_ ?_
 rcases h.em with ⟨u55, h⟩ | ⟨u55, h⟩
 refine Zu u55 Yf ?_
 obtain ⟨x56, v57, h⟩ := h
 refine Zu u55 (Yo v57) (Zu u55 (OV.lenSl rfl rfl) (Zu u55 (OV.ibin (v := .bool (((Sl.len x56 : Int) : Int) == 0)) rfl rfl rfl) (Zt u55 ?_)))
 exact Yj I3 (((Sl.len x56 : Int) : Int) == 0) h
 refine Zk u55 (Zk u55 (Zk u55 (Zk u55 (Zn u55 ?_))))
 exact Yj I3 false h
 intro b52 H58 h
 replace h := hR54 b52 H58 h
 refine Za ?_
 exact Yj I3 (b52, true) h
 refine Zo (Zi (.bool ((x23 : Int) == 3)) (Za (GL.nil (Yd h (fun u59 h => ?_) fun u59 h => ?_))))
 refine Zo (Zf (Yl h fun x60 h => ?_))
 refine Zc h QfX ?_
 rintro _ H64 ⟨r62, r63, rfl, h⟩
 refine Zm (Yv (.int .i64 r62) rfl rfl (Yv (.bool r63) rfl rfl (Za (Za (GL.nil (GC.region (Zm (Zm ?_))))))))
 obtain ⟨J66, h, hR67⟩ := h
 refine GL.cut (α := Bool) 4 J66 (fun b65 => [(74, .bool b65), (1, pv (some (b1, 0))), (4, .int .i64 r62)]) ?_ ?_
 rcases h.em with ⟨u68, h⟩ | ⟨u68, h⟩
 refine Zu u68 Yf ?_
 obtain ⟨x69, v70, h⟩ := h
 refine Zu u68 (Yo v70) (Zu u68 (OV.ibin (v := .bool ((x69 : Int) == 0)) rfl rfl rfl) (Zt u68 ?_))
 exact Yj I3 ((x69 : Int) == 0) h
 refine Zk u68 (Zk u68 (Zk u68 (Zn u68 ?_)))
 exact Yj I3 false h
 intro b65 H71 h
 replace h := hR67 b65 H71 h
 refine Zm ?_
 obtain ⟨J73, h, hR74⟩ := h
 refine GL.cut (α := Bool) 5 J73 (fun b72 => [(80, .bool b72), (1, pv (some (b1, 0))), (4, .int .i64 r62)]) ?_ ?_
 rcases h.em with ⟨u75, h⟩ | ⟨u75, h⟩
 refine Zu u75 Yf ?_
 obtain ⟨x76, v77, h⟩ := h
 refine Zu u75 (Yo v77) (Zu u75 (OV.lenSl rfl rfl) (Zu u75 (OV.ibin (v := .bool (((Sl.len x76 : Int) : Int) == 0)) rfl rfl rfl) (Zt u75 ?_)))
 exact Yj I3 (((Sl.len x76 : Int) : Int) == 0) h
 refine Zk u75 (Zk u75 (Zk u75 (Zk u75 (Zn u75 ?_))))
 exact Yj I3 false h
 intro b72 H78 h
 replace h := hR74 b72 H78 h
 refine Zm (Zi (.bool (decide ((r62 : Int) ≤ 200))) (Za (Za ?_)))
 exact Yj I3 (b72, (decide ((r62 : Int) ≤ 200))) h
 refine Zo (Zi (.bool ((x23 : Int) == 4)) (Za (GL.nil (Yd h (fun u79 h => ?_) fun u79 h => ?_))))
 obtain ⟨J80, h, hR83⟩ := h
 refine GC.meet (α := Bool × Bool) J80 (fun x81 => [(2, .bool x81.1), (3, .bool x81.2), (1, pv (some (b1, 0)))]) ?_ ?_
 obtain ⟨Hs84, hle85, h⟩ := h
 refine GC.any (Hs := Hs84) (by kernel_rfl) hle85 (Zp 0 rfl Yf ?_)
 obtain ⟨x86, v87, h⟩ := h
 refine Zp 1 rfl (Yo v87) (Zp 2 rfl (OV.ibin (v := .bool ((x86 : Int) == 0)) rfl rfl rfl) (Zp 3 rfl Ym (Zp 9 rfl Yf ?_)))
 obtain ⟨x88, v89, h⟩ := h
 refine Zp 10 rfl (Yo v89) (Zp 11 rfl (OV.lenStr rfl rfl) (Zp 12 rfl (OV.ibin (v := .bool (decide (((List.length x88 : Int) : Int) ≤ 4096))) rfl rfl rfl) ?_))
 rcases h.em with ⟨u90, h⟩ | ⟨u90, h⟩
 refine Zg 4 rfl (Yt u90) Yf ?_
 obtain ⟨x91, v92, h⟩ := h
 refine Zg 5 rfl (Yt u90) (Yo v92) (Zg 6 rfl (Yt u90) (OV.lenSl rfl rfl) (Zg 7 rfl (Yt u90) (OV.ibin (v := .bool (((Sl.len x91 : Int) : Int) == 0)) rfl rfl rfl) (Zp 8 rfl (OV.pickT rfl u90 rfl) (Zp 13 rfl Ya (Zp 14 rfl Ya (GA.done (by kernel_rfl) ?_))))))
 exact Yj I3 ((((Sl.len x91 : Int) : Int) == 0), (decide (((List.length x88 : Int) : Int) ≤ 4096))) h
 refine Zj 4 rfl (Yw u90) (Zj 5 rfl (Yw u90) (Zj 6 rfl (Yw u90) (Zj 7 rfl (Yw u90) (Zp 8 rfl (OV.pickF rfl u90 rfl) (Zp 13 rfl Ya (Zp 14 rfl Ya (GA.done (by kernel_rfl) ?_)))))))
 exact Yj I3 (false, (decide (((List.length x88 : Int) : Int) ≤ 4096))) h
 intro x81 H82 h
 replace h := hR83 x81 H82 h
 exact Yj I3 (x81.1, x81.2) h
 refine Zo (Zi (.bool ((x23 : Int) == 5)) (Za (GL.nil (Yd h (fun u93 h => ?_) fun u93 h => ?_))))
 obtain ⟨J94, h, hR97⟩ := h
 refine GC.meet (α := Bool × Bool) J94 (fun x95 => [(2, .bool x95.1), (3, .bool x95.2), (1, pv (some (b1, 0)))]) ?_ ?_
 obtain ⟨Hs98, hle99, h⟩ := h
 refine GC.any (Hs := Hs98) (by kernel_rfl) hle99 (Zp 0 rfl Yf ?_)
 obtain ⟨x100, v101, h⟩ := h
 refine Zp 1 rfl (Yo v101) (Zp 2 rfl (OV.ibin (v := .bool ((x100 : Int) == 0)) rfl rfl rfl) (Zp 3 rfl Ym (Zp 14 rfl Yf ?_)))
 obtain ⟨x102, v103, h⟩ := h
 refine Zp 15 rfl (Yo v103) (Zp 16 rfl (OV.lenSl rfl rfl) (Zp 17 rfl (OV.ibin (v := .bool (decide (((Sl.len x102 : Int) : Int) ≤ 16))) rfl rfl rfl) ?_))
 rcases h.em with ⟨u104, h⟩ | ⟨u104, h⟩
 refine Zg 4 rfl (Yt u104) Yf ?_
 obtain ⟨x105, v106, h⟩ := h
 refine Zg 5 rfl (Yt u104) (Yo v106) (Zg 6 rfl (Yt u104) (OV.sbin (a := x105) (b := ([] : Str)) (v := .bool (x105 == ([] : Str))) rfl rfl rfl) (Zp 7 rfl (OV.pickT rfl u104 rfl) (Zp 8 rfl Ym ?_)))
 rcases h.em with ⟨u107, h⟩ | ⟨u107, h⟩
 refine Zg 9 rfl (Yt u107) Yf ?_
 obtain ⟨x108, v109, h⟩ := h
 refine Zg 10 rfl (Yt u107) (Yo v109) (Zg 11 rfl (Yt u107) (OV.lenSl rfl rfl) (Zg 12 rfl (Yt u107) (OV.ibin (v := .bool (((Sl.len x108 : Int) : Int) != 1)) rfl rfl rfl) (Zp 13 rfl (OV.pickT rfl u107 rfl) (Zp 18 rfl Ya (Zp 19 rfl Ya (GA.done (by kernel_rfl) ?_))))))
 exact Yj I3 ((((Sl.len x108 : Int) : Int) != 1), (decide (((Sl.len x102 : Int) : Int) ≤ 16))) h
 refine Zj 9 rfl (Yw u107) (Zj 10 rfl (Yw u107) (Zj 11 rfl (Yw u107) (Zj 12 rfl (Yw u107) (Zp 13 rfl (OV.pickF rfl u107 rfl) (Zp 18 rfl Ya (Zp 19 rfl Ya (GA.done (by kernel_rfl) ?_)))))))
 exact Yj I3 (false, (decide (((Sl.len x102 : Int) : Int) ≤ 16))) h
 refine Zj 4 rfl (Yw u104) (Zj 5 rfl (Yw u104) (Zj 6 rfl (Yw u104) (Zp 7 rfl (OV.pickF rfl u104 rfl) (Zp 8 rfl Ym (Zj 9 rfl (Yw rfl) (Zj 10 rfl (Yw rfl) (Zj 11 rfl (Yw rfl) (Zj 12 rfl (Yw rfl) (Zp 13 rfl (OV.pickF rfl rfl rfl) (Zp 18 rfl Ya (Zp 19 rfl Ya (GA.done (by kernel_rfl) ?_))))))))))))
 exact Yj I3 (false, (decide (((Sl.len x102 : Int) : Int) ≤ 16))) h
 intro x95 H96 h
 replace h := hR97 x95 H96 h
 exact Yj I3 (x95.1, x95.2) h
 refine Zo (Zi (.bool ((x23 : Int) == 6)) (Za (GL.nil (Yd h (fun u110 h => ?_) fun u110 h => ?_))))
 refine Zo (Zf (Yl h fun x111 h => ?_))
 refine Zc h Qgo ?_
 rintro _ H116 ⟨r113, r114, r115, rfl, h⟩
 refine Zm (Yv (sv r113) rfl rfl (Yv (sv r114) rfl rfl (Yv (.bool r115) rfl rfl (Za (Za (Za (GL.nil ?_)))))))
 obtain ⟨J117, h, hR120⟩ := h
 refine GC.meet (α := Bool × Bool) J117 (fun x118 => [(2, .bool x118.1), (3, .bool x118.2), (1, pv (some (b1, 0)))]) ?_ ?_
 obtain ⟨Hs121, hle122, h⟩ := h
 refine GC.any (Hs := Hs121) (by kernel_rfl) hle122 (Zp 0 rfl Yf ?_)
 obtain ⟨x123, v124, h⟩ := h
 refine Zp 1 rfl (Yo v124) (Zp 2 rfl (OV.ibin (v := .bool ((x123 : Int) == 0)) rfl rfl rfl) (Zp 3 rfl Ym (Zp 28 rfl Yf ?_)))
 obtain ⟨x125, v126, h⟩ := h
 refine Zp 29 rfl (Yo v126) (Zp 30 rfl (OV.lenSl rfl rfl) (Zp 31 rfl (OV.ibin (v := .bool (decide (((Sl.len x125 : Int) : Int) ≤ 8))) rfl rfl rfl) ?_))
 rcases h.em with ⟨u127, h⟩ | ⟨u127, h⟩
 refine Zg 4 rfl (Yt u127) Ym (GA.eff 5 rfl (by kernel_rfl) (GL.call h (Yt u127) rfl QeJ (vs := [sv r113]) rfl ?_))
 rintro _ H130 ⟨r129, rfl, h⟩
 obtain ⟨hle128, h⟩ := h
 refine GA.back hle128 (Zp 6 rfl (OV.pickT rfl u127 rfl) (Zp 7 rfl Ym ?_))
 rcases h.em with ⟨u131, h⟩ | ⟨u131, h⟩
 refine Zg 8 rfl (Yt u131) Ym (Zg 9 rfl (Yt u131) Ym ?_)
 rcases h.em with ⟨u132, h⟩ | ⟨u132, h⟩
 refine Zg 10 rfl (Yt u132) Ym (GA.eff 11 rfl (by kernel_rfl) (GL.call h (Yt u132) rfl QeJ (vs := [sv r114]) rfl ?_))
 rintro _ H135 ⟨r134, rfl, h⟩
 obtain ⟨hle133, h⟩ := h
 refine GA.back hle133 (Zg 12 rfl (Yt u131) (OV.pickT rfl u132 rfl) (Zg 13 rfl (Yt u131) Ym ?_))
 rcases h.em with ⟨u136, h⟩ | ⟨u136, h⟩
 refine Zj 14 rfl (Yw u136) (Zj 15 rfl (Yw u136) (Zj 16 rfl (Yw u136) (Zj 17 rfl ⟨_, rfl, .inr rfl⟩ (Zj 18 rfl ⟨_, rfl, .inr rfl⟩ (Zj 19 rfl ⟨_, rfl, .inr rfl⟩ (Zj 20 rfl (Yw u136) (Zj 21 rfl (Yw u136) (Zj 22 rfl ⟨_, rfl, .inr rfl⟩ (Zj 23 rfl ⟨_, rfl, .inr rfl⟩ (Zj 24 rfl ⟨_, rfl, .inr rfl⟩ (Zj 25 rfl (Yw u136) (Zg 26 rfl (Yt u131) (OV.pickT rfl u136 rfl) (Zp 27 rfl (OV.pickT rfl u131 rfl) (Zp 32 rfl Ya (Zp 33 rfl Ya (GA.done (by kernel_rfl) ?_))))))))))))))))
 exact Yj I3 (true, (decide (((Sl.len x125 : Int) : Int) ≤ 8))) h
 refine Zg 14 rfl (Yt u136) Ym (Zg 15 rfl (Yt u136) (OV.not rfl) (Zg 16 rfl (Yt u136) Ym ?_))
 rcases h.em with ⟨u137, h⟩ | ⟨u137, h⟩
 refine Zg 17 rfl (Yt u137) Yf ?_
 obtain ⟨x138, v139, h⟩ := h
 refine Zg 18 rfl (Yt u137) (Yo v139) (Zg 19 rfl (Yt u137) (OV.sbin (a := x138) (b := ([116, 114, 117, 101] : Str)) (v := .bool (!(x138 == ([116, 114, 117, 101] : Str)))) rfl rfl rfl) (Zg 20 rfl (Yt u136) (OV.pickT rfl u137 rfl) (Zg 21 rfl (Yt u136) Ym ?_)))
 rcases h.em with ⟨u140, h⟩ | ⟨u140, h⟩
 refine Zg 22 rfl (Yt u140) Yf ?_
 obtain ⟨x141, v142, h⟩ := h
 refine Zg 23 rfl (Yt u140) (Yo v142) (Zg 24 rfl (Yt u140) (OV.sbin (a := x141) (b := ([102, 97, 108, 115, 101] : Str)) (v := .bool (!(x141 == ([102, 97, 108, 115, 101] : Str)))) rfl rfl rfl) (Zg 25 rfl (Yt u136) (OV.pickT rfl u140 rfl) (Zg 26 rfl (Yt u131) (OV.pickF rfl u136 rfl) (Zp 27 rfl (OV.pickT rfl u131 rfl) (Zp 32 rfl Ya (Zp 33 rfl Ya (GA.done (by kernel_rfl) ?_)))))))
 exact Yj I3 ((!(x141 == ([102, 97, 108, 115, 101] : Str))), (decide (((Sl.len x125 : Int) : Int) ≤ 8))) h
 refine Zj 22 rfl (Yw u140) (Zj 23 rfl (Yw u140) (Zj 24 rfl (Yw u140) (Zg 25 rfl (Yt u136) (OV.pickF rfl u140 rfl) (Zg 26 rfl (Yt u131) (OV.pickF rfl u136 rfl) (Zp 27 rfl (OV.pickT rfl u131 rfl) (Zp 32 rfl Ya (Zp 33 rfl Ya (GA.done (by kernel_rfl) ?_))))))))
 exact Yj I3 (false, (decide (((Sl.len x125 : Int) : Int) ≤ 8))) h
 refine Zj 17 rfl (Yw u137) (Zj 18 rfl (Yw u137) (Zj 19 rfl (Yw u137) (Zg 20 rfl (Yt u136) (OV.pickF rfl u137 rfl) (Zg 21 rfl (Yt u136) Ym (Zj 22 rfl (Yw rfl) (Zj 23 rfl (Yw rfl) (Zj 24 rfl (Yw rfl) (Zg 25 rfl (Yt u136) (OV.pickF rfl rfl rfl) (Zg 26 rfl (Yt u131) (OV.pickF rfl u136 rfl) (Zp 27 rfl (OV.pickT rfl u131 rfl) (Zp 32 rfl Ya (Zp 33 rfl Ya (GA.done (by kernel_rfl) ?_)))))))))))))
 exact Yj I3 (false, (decide (((Sl.len x125 : Int) : Int) ≤ 8))) h
 refine Zj 10 rfl (Yw u132) (Zj 11 rfl (Yw u132) (Zg 12 rfl (Yt u131) (OV.pickF rfl u132 rfl) (Zg 13 rfl (Yt u131) Ym (Zg 14 rfl (Yt rfl) Ym (Zg 15 rfl (Yt rfl) (OV.not rfl) (Zg 16 rfl (Yt rfl) Ym ?_))))))
 rcases h.em with ⟨u143, h⟩ | ⟨u143, h⟩
 refine Zg 17 rfl (Yt u143) Yf ?_
 obtain ⟨x144, v145, h⟩ := h
 refine Zg 18 rfl (Yt u143) (Yo v145) (Zg 19 rfl (Yt u143) (OV.sbin (a := x144) (b := ([116, 114, 117, 101] : Str)) (v := .bool (!(x144 == ([116, 114, 117, 101] : Str)))) rfl rfl rfl) (Zg 20 rfl (Yt rfl) (OV.pickT rfl u143 rfl) (Zg 21 rfl (Yt rfl) Ym ?_)))
 rcases h.em with ⟨u146, h⟩ | ⟨u146, h⟩
 refine Zg 22 rfl (Yt u146) Yf ?_
 obtain ⟨x147, v148, h⟩ := h
 refine Zg 23 rfl (Yt u146) (Yo v148) (Zg 24 rfl (Yt u146) (OV.sbin (a := x147) (b := ([102, 97, 108, 115, 101] : Str)) (v := .bool (!(x147 == ([102, 97, 108, 115, 101] : Str)))) rfl rfl rfl) (Zg 25 rfl (Yt rfl) (OV.pickT rfl u146 rfl) (Zg 26 rfl (Yt u131) (OV.pickF rfl rfl rfl) (Zp 27 rfl (OV.pickT rfl u131 rfl) (Zp 32 rfl Ya (Zp 33 rfl Ya (GA.done (by kernel_rfl) ?_)))))))
 exact Yj I3 ((!(x147 == ([102, 97, 108, 115, 101] : Str))), (decide (((Sl.len x125 : Int) : Int) ≤ 8))) h
 refine Zj 22 rfl (Yw u146) (Zj 23 rfl (Yw u146) (Zj 24 rfl (Yw u146) (Zg 25 rfl (Yt rfl) (OV.pickF rfl u146 rfl) (Zg 26 rfl (Yt u131) (OV.pickF rfl rfl rfl) (Zp 27 rfl (OV.pickT rfl u131 rfl) (Zp 32 rfl Ya (Zp 33 rfl Ya (GA.done (by kernel_rfl) ?_))))))))
 exact Yj I3 (false, (decide (((Sl.len x125 : Int) : Int) ≤ 8))) h
 refine Zj 17 rfl (Yw u143) (Zj 18 rfl (Yw u143) (Zj 19 rfl (Yw u143) (Zg 20 rfl (Yt rfl) (OV.pickF rfl u143 rfl) (Zg 21 rfl (Yt rfl) Ym (Zj 22 rfl (Yw rfl) (Zj 23 rfl (Yw rfl) (Zj 24 rfl (Yw rfl) (Zg 25 rfl (Yt rfl) (OV.pickF rfl rfl rfl) (Zg 26 rfl (Yt u131) (OV.pickF rfl rfl rfl) (Zp 27 rfl (OV.pickT rfl u131 rfl) (Zp 32 rfl Ya (Zp 33 rfl Ya (GA.done (by kernel_rfl) ?_)))))))))))))
 exact Yj I3 (false, (decide (((Sl.len x125 : Int) : Int) ≤ 8))) h
 refine Zj 8 rfl (Yw u131) (Zj 9 rfl (Yw u131) (Zj 10 rfl ⟨_, rfl, .inr rfl⟩ (Zj 11 rfl ⟨_, rfl, .inr rfl⟩ (Zj 12 rfl (Yw u131) (Zj 13 rfl (Yw u131) (Zj 14 rfl ⟨_, rfl, .inr rfl⟩ (Zj 15 rfl ⟨_, rfl, .inr rfl⟩ (Zj 16 rfl ⟨_, rfl, .inr rfl⟩ (Zj 17 rfl ⟨_, rfl, .inr rfl⟩ (Zj 18 rfl ⟨_, rfl, .inr rfl⟩ (Zj 19 rfl ⟨_, rfl, .inr rfl⟩ (Zj 20 rfl ⟨_, rfl, .inr rfl⟩ (Zj 21 rfl ⟨_, rfl, .inr rfl⟩ (Zj 22 rfl ⟨_, rfl, .inr rfl⟩ (Zj 23 rfl ⟨_, rfl, .inr rfl⟩ (Zj 24 rfl ⟨_, rfl, .inr rfl⟩ (Zj 25 rfl ⟨_, rfl, .inr rfl⟩ (Zj 26 rfl (Yw u131) (Zp 27 rfl (OV.pickF rfl u131 rfl) (Zp 32 rfl Ya (Zp 33 rfl Ya (GA.done (by kernel_rfl) ?_))))))))))))))))))))))
 exact Yj I3 (false, (decide (((Sl.len x125 : Int) : Int) ≤ 8))) h
 refine Zj 4 rfl (Yw u127) (Zj 5 rfl (Yw u127) (Zp 6 rfl (OV.pickF rfl u127 rfl) (Zp 7 rfl Ym (Zj 8 rfl (Yw rfl) (Zj 9 rfl (Yw rfl) (Zj 10 rfl ⟨_, rfl, .inr rfl⟩ (Zj 11 rfl ⟨_, rfl, .inr rfl⟩ (Zj 12 rfl (Yw rfl) (Zj 13 rfl (Yw rfl) (Zj 14 rfl ⟨_, rfl, .inr rfl⟩ (Zj 15 rfl ⟨_, rfl, .inr rfl⟩ (Zj 16 rfl ⟨_, rfl, .inr rfl⟩ (Zj 17 rfl ⟨_, rfl, .inr rfl⟩ (Zj 18 rfl ⟨_, rfl, .inr rfl⟩ (Zj 19 rfl ⟨_, rfl, .inr rfl⟩ (Zj 20 rfl ⟨_, rfl, .inr rfl⟩ (Zj 21 rfl ⟨_, rfl, .inr rfl⟩ (Zj 22 rfl ⟨_, rfl, .inr rfl⟩ (Zj 23 rfl ⟨_, rfl, .inr rfl⟩ (Zj 24 rfl ⟨_, rfl, .inr rfl⟩ (Zj 25 rfl ⟨_, rfl, .inr rfl⟩ (Zj 26 rfl (Yw rfl) (Zp 27 rfl (OV.pickF rfl rfl rfl) (Zp 32 rfl Ya (Zp 33 rfl Ya (GA.done (by kernel_rfl) ?_))))))))))))))))))))))))))
 exact Yj I3 (false, (decide (((Sl.len x125 : Int) : Int) ≤ 8))) h
 intro x118 H119 h
 replace h := hR120 x118 H119 h
 exact Yj I3 (x118.1, x118.2) h
 refine GC.region (Za ?_)
 exact Yj I3 (false, true) h
 intro x20 H21 h
 replace h := hR22 x20 H21 h
 refine GC.seq (Zo (Zf (Yl h fun x149 h => ?_)))
 refine Zq (Zm (GL.nil (GC.block (Yp h (fun x151 => [(2, .bool x151.1), (3, .bool x151.2.1), (162, .int .i64 x151.2.2), (160, slv x149), (161, .int .i64 (Sl.len x149 : Int))]) ?_))))
 intro x151 H153 J152 h
 refine Zo (Zi (.bool (decide ((x151.2.2 : Int) < (Sl.len x149 : Int)))) (GL.nil (GC.seq (Yd h (fun u154 h => ?_) fun u154 h => ?_))))
 refine GC.skip (GC.seq (GC.block (Zo (Yx h fun p155 h => ?_))))
 obtain ⟨x160, v161, h⟩ := h
 refine Zv (OV.loadT rfl rfl rfl v161) (GL.alloc (cs := Qa.c Qa.zero) h trivial rfl rfl rfl ?_)
 intro b162 H163 h
 refine GL.storeT (p := (b162, 0)) (vs := Qa.c x160) h trivial rfl rfl rfl rfl ?_
 intro H164 h
 refine GL.nil (Zo ?_)
 obtain ⟨x165, v166, h⟩ := h
 refine Zv (OV.loadT rfl rfl rfl v166) (Zc h Qcj ?_)
 rintro _ H169 ⟨r167, r168, rfl, h⟩
 refine Zm (Yv (.bool r167) rfl rfl (Yv (.bool r168) rfl rfl (Za (Za (GL.nil (GC.region (Zm (Zm (GL.cut0 2 [(174, .bool (x151.1 && r167)), (3, .bool x151.2.1), (12, .bool r168), (160, slv x149), (161, .int .i64 (Sl.len x149 : Int)), (162, .int .i64 x151.2.2)] ?_ ?_)))))))))
 rcases Bool.eq_false_or_eq_true x151.1 with u170 | u170
 refine Zu u170 Ym (Zt u170 ?_)
 exact GL.jump0 (fun _ _ h => h) () rfl ⟨(by rw [u170]; rfl), rfl, rfl, rfl, rfl, rfl, trivial⟩
 refine Zk u170 (Zn u170 ?_)
 exact GL.jump0 (fun _ _ h => h) () rfl ⟨(by rw [u170]; rfl), rfl, rfl, rfl, rfl, rfl, trivial⟩
 refine Zm (Zm (GL.cut0 2 [(178, .bool (x151.2.1 && r168)), (160, slv x149), (161, .int .i64 (Sl.len x149 : Int)), (162, .int .i64 x151.2.2), (174, .bool (x151.1 && r167))] ?_ ?_))
 rcases Bool.eq_false_or_eq_true x151.2.1 with u171 | u171
 refine Zu u171 Ym (Zt u171 ?_)
 exact GL.jump0 (fun _ _ h => h) () rfl ⟨(by rw [u171]; rfl), rfl, rfl, rfl, rfl, trivial⟩
 refine Zk u171 (Zn u171 ?_)
 exact GL.jump0 (fun _ _ h => h) () rfl ⟨(by rw [u171]; rfl), rfl, rfl, rfl, rfl, trivial⟩
 refine Za (Za (GL.nil_to (fun _ _ h => h) (GC.region (Zi (.int .i64 (w .i64 (x151.2.2 + 1))) (Zm ?_)))))
 exact Yj I3 ((x151.1 && r167), (x151.2.1 && r168), (w .i64 (x151.2.2 + 1))) h
 refine GC.exit_to (fun _ _ h => h) (Zo (Zm (Zm (Za (Za (GL.nil ?_))))))
 exact Y2 I3 ⟨x151.1, x151.2.1, rfl, h⟩
def Qea (C : Ctx) (p_b : Sl) (K : Option (Nat × Nat) → Heap → Prop) (H : Heap) : Prop :=
 Qae C p_b (fun r1 H2 =>
 nw (Qap.c (⟨r1, 0⟩ : Qap)) (fun b3 H4 =>
 K (some (b3, 0)) H4) H2) H
theorem Qgd (C p_b K H) (h : Qea C p_b K H) : Qc6 C p_b K H := by
 refine Ye Tryz.func61 rfl Tryz.ntmps61 [(0, slv p_b)] (Zo (Za (GL.nil (Zo (Zm (Zc h QcG ?_))))))
 rintro _ H2 ⟨r1, rfl, h⟩
 refine Zv (OV.build (vs := [(0, slv r1)]) (v := .agg (Qap.c (⟨r1, 0⟩ : Qap)).toArray) rfl (fun _ => by kernel_rfl)) (GL.box (v := .agg (Qap.c (⟨r1, 0⟩ : Qap)).toArray) (cs := Qap.c (⟨r1, 0⟩ : Qap)) h trivial rfl rfl rfl ?_)
 intro b3 H4 h
 refine Za (GL.nil ?_)
 exact Y1 I3 ⟨(some (b3, 0)), rfl, h⟩
def QcS (C : Ctx) (p_p : Option (Nat × Nat)) (p_v : Qa) (K : Heap → Prop) (H : Heap) : Prop :=
 nw (Qa.c p_v) (fun b1 H2 =>
 nw ((List.replicate 7 (.nilFunc : Value))) (fun b3 H4 =>
 stC 7 (b3, 0) [.nilFunc, .func (.func 78) (List.toArray []) (List.toArray []), .func (.func 79) (List.toArray []) (List.toArray []), .func (.func 80) (List.toArray []) (List.toArray []), .func (.func 81) (List.toArray []) (List.toArray []), .func (.func 82) (List.toArray []) (List.toArray []), .func (.func 83) (List.toArray []) (List.toArray [])] (fun H5 =>
 ldI H5 .u8 ((b1, 0).1, (b1, 0).2 + 0) fun x8 =>
 nw ([.int .u8 x8]) (fun b10 H11 =>
 Qn C p_p (Sl.of (some (b10, 0)) 1 1) (fun H12 =>
 dr H12 fun Hs13 =>
 ldI Hs13 .u8 ((b1, 0).1, (b1, 0).2 + 0) fun x15 =>
 ixr (b3, 0) 7 x15 <|
 ldV Hs13 ((b3, 0).1, (b3, 0).2 + (x15 : Int).toNat * 1) fun x19 =>
 ldT Hs13 Qa.c (b1, 0) fun x21 =>
 callU Tryz.prog C x19 [pv p_p, .agg (Qa.c x21).toArray] H12 (fun v H24 => v = .tuple #[] ∧
 Heap.le Hs13 H24 ∧
 K H24)) H11) H5) H4) H2) H
theorem QeW (C p_p p_v K H) (h : QcS C p_p p_v K H) : QaU C p_p p_v K H := by
 refine Ye Tryz.func62 rfl Tryz.ntmps62 [(0, pv p_p), (1, .agg (Qa.c p_v).toArray)] (Zo (GL.box (v := .agg (Qa.c p_v).toArray) (cs := Qa.c p_v) h trivial rfl rfl rfl ?_))
 intro b1 H2 h
 refine GL.nil (Zo (Zv (OV.build (vs := [(1, .func (.func 78) (List.toArray []) (List.toArray [])), (2, .func (.func 79) (List.toArray []) (List.toArray [])), (3, .func (.func 80) (List.toArray []) (List.toArray [])), (4, .func (.func 81) (List.toArray []) (List.toArray [])), (5, .func (.func 82) (List.toArray []) (List.toArray [])), (6, .func (.func 83) (List.toArray []) (List.toArray []))]) (v := .agg (List.toArray [.nilFunc, .func (.func 78) (List.toArray []) (List.toArray []), .func (.func 79) (List.toArray []) (List.toArray []), .func (.func 80) (List.toArray []) (List.toArray []), .func (.func 81) (List.toArray []) (List.toArray []), .func (.func 82) (List.toArray []) (List.toArray []), .func (.func 83) (List.toArray []) (List.toArray [])])) rfl (fun _ => by kernel_rfl)) (GL.alloc (cs := (List.replicate 7 (.nilFunc : Value))) h trivial rfl rfl rfl ?_)))
 intro b3 H4 h
 obtain ⟨hl6, h17, h⟩ := h
 refine GL.storeT (p := (b3, 0)) (vs := [.nilFunc, .func (.func 78) (List.toArray []) (List.toArray []), .func (.func 79) (List.toArray []) (List.toArray []), .func (.func 80) (List.toArray []) (List.toArray []), .func (.func 81) (List.toArray []) (List.toArray []), .func (.func 82) (List.toArray []) (List.toArray []), .func (.func 83) (List.toArray []) (List.toArray [])]) h trivial rfl rfl h17 (by rw [hl6]; rfl) ?_
 intro H5 h
 refine GL.nil (Zo (Zm (Zf (Yl h fun x8 h => ?_))))
 refine GL.buildSlice (cs := [.int .u8 x8]) h trivial rfl (vs := [(0, .int .u8 x8)]) rfl ⟨5, fun _ => by kernel_rfl⟩ ?_
 intro b10 H11 h
 refine Zc h Qv ?_
 rintro _ H12 ⟨rfl, h⟩
 refine GL.nil ?_
 obtain ⟨Hs13, hle14, h⟩ := h
 refine GC.any (Hs := Hs13) (by kernel_rfl) hle14 (Zp 0 rfl Yf ?_)
 obtain ⟨x15, v16, h⟩ := h
 refine Zp 1 rfl (Yo v16) ?_
 obtain ⟨ha17, hb18, h⟩ := h
 refine Zp 2 rfl (OV.indexAddrA (p := (b3, 0)) rfl rfl rfl rfl ha17 hb18) ?_
 obtain ⟨x19, v20, h⟩ := h
 refine Zp 3 rfl (Yo v20) (Zp 4 rfl Ym ?_)
 obtain ⟨x21, v22, h⟩ := h
 refine Zp 5 rfl (OV.loadT rfl rfl rfl v22) (GA.eff 6 rfl (by kernel_rfl) (GL.callU (xv := x19) (vs := [pv p_p, .agg (Qa.c x21).toArray]) h trivial rfl rfl rfl ?_))
 rintro _ H24 ⟨rfl, h⟩
 obtain ⟨hle23, h⟩ := h
 refine GA.back hle23 (GA.done (by kernel_rfl) ?_)
 exact GL.ends (fun _ _ hf hs => QC rfl hf hs ⟨rfl, h⟩)
def Qaw (C : Ctx) (p_b : Option (Nat × Nat)) (K : Heap → Prop) (H : Heap) : Prop :=
 nck p_b fun p1 =>
 ldP H (p1.1, p1.2 + 0) fun x3 =>
 ift (Option.isNone x3)
 (∃ p7, p_b = some p7 ∧ cvU p7 (
 cvP 84 2 p7 (
 nck p_b fun p10 =>
 sttG (p10.1, p10.2 + 0) (pv (some p7)) (fun H12 =>
 K H12) H) H) H)
 (nck p_b fun p13 =>
 ldP H (p13.1, p13.2 + 0) fun x15 =>
 ∃ p17, x15 = some p17 ∧ p_b = some p17 ∧
 ift false
 (False)
 (K H))
theorem QbJ (C p_b K H) (h : Qaw C p_b K H) : QD C p_b K H := by
 refine Ye Tryz.func64 rfl Tryz.ntmps64 [(0, pv p_b)] (Zo (Zm ?_))
 obtain ⟨p1, hp2, h⟩ := h
 refine Zv (OV.nilCheck (q := p_b) rfl hp2) (Zf (Yl h fun x3 h => ?_))
 refine Zv (OV.eqlNil (p := x3) rfl rfl rfl) (GL.nil (Yd h (fun u5 h => ?_) fun u5 h => ?_))
 refine GC.region (Zm (Zm ?_))
 obtain ⟨p7, hp8, hu6, h⟩ := h
 refine Zv (OV.cvU (q := p_b) (p := p7) hp8 hu6 rfl rfl rfl ⟨_, rfl, by decide⟩) (Zv (OV.ext QcE (vs := [pv (some p7)]) (v := pv (some p7)) rfl (fun w => QjU _ w)) ?_)
 obtain ⟨hu9, h⟩ := h
 refine Zv (OV.cvP (T := 84) (len := 2) (p := p7) hu9 rfl rfl rfl ⟨_, rfl⟩ (by kernel_rfl)) ?_
 obtain ⟨p10, hp11, h⟩ := h
 refine Zv (OV.nilCheck (q := p_b) rfl hp11) (Zf (GL.storeG (p := (p10.1, p10.2 + 0)) (v := pv (some p7)) h trivial rfl rfl rfl rfl ?_))
 intro H12 h
 exact GL.ends (fun _ _ hf hs => QC rfl hf hs ⟨rfl, h⟩)
 refine Zo (Zm ?_)
 obtain ⟨p13, hp14, h⟩ := h
 refine Zv (OV.nilCheck (q := p_b) rfl hp14) (Zf (Yl h fun x15 h => ?_))
 refine Zm ?_
 obtain ⟨p17, hp18, hq19, h⟩ := h
 refine Zv (OV.neqSame (p := x15) (q := p_b) rfl rfl hp18 hq19 rfl rfl) (GL.nil (Yd h (fun u20 h => ?_) fun u20 h => ?_))
 exact GC.never h
 exact GC.ends (fun _ _ hf hs => QC rfl hf hs ⟨rfl, h⟩)
def Qbk (C : Ctx) (p_b : Option (Nat × Nat)) (p_n : Int) (K : Heap → Prop) (H : Heap) : Prop :=
 dr H fun Hs1 =>
 nck p_b fun p3 =>
 ldL Hs1 (p3.1, p3.2 + 1) fun x5 =>
 nck p_b fun p7 =>
 ldL Hs1 (p7.1, p7.2 + 1) fun x9 =>
 mnz 5 (w .i64 ((w .i64 (2 * (Sl.cap x5 : Int))) + p_n)) (fun r12 H13 =>
 Heap.le Hs1 H13 ∧
 slL r12 0 (Sl.len x9 : Int) (Sl.cap r12 : Int) 1 fun t14 =>
 nck p_b fun p20 =>
 ldL H13 (p20.1, p20.2 + 1) fun x22 =>
 cpyG 1 t14 x22 (fun r24 H25 =>
 nck p_b fun p26 =>
 sttG (p26.1, p26.2 + 1) (slv t14) (fun H28 =>
 K H28) H25) H13) H
theorem Qc1 (C p_b p_n K H) (h : Qbk C p_b p_n K H) : QA C p_b p_n K H := by
 refine Ye Tryz.func65 rfl Tryz.ntmps65 [(0, pv p_b), (1, .int .i64 p_n)] (GC.seq ?_)
 obtain ⟨Hs1, hle2, h⟩ := h
 refine GC.any (Hs := Hs1) (by kernel_rfl) hle2 (Zp 0 rfl Ym ?_)
 obtain ⟨p3, hp4, h⟩ := h
 refine Zp 1 rfl (OV.nilCheck (q := p_b) rfl hp4) (Zp 2 rfl Yf ?_)
 obtain ⟨x5, v6, h⟩ := h
 refine Zp 3 rfl (Yo v6) (Zp 4 rfl (OV.cap (s := x5) rfl rfl rfl) (Zp 5 rfl (OV.ibin (v := .int .i64 (w .i64 (2 * (Sl.cap x5 : Int)))) rfl rfl rfl) (Zp 6 rfl Ym (Zp 7 rfl (OV.ibin (v := .int .i64 (w .i64 ((w .i64 (2 * (Sl.cap x5 : Int))) + p_n))) rfl rfl rfl) (Zp 9 rfl Ym ?_)))))
 obtain ⟨p7, hp8, h⟩ := h
 refine Zp 10 rfl (OV.nilCheck (q := p_b) rfl hp8) (Zp 11 rfl Yf ?_)
 obtain ⟨x9, v10, h⟩ := h
 refine Zp 12 rfl (Yo v10) (Zp 13 rfl (OV.lenSl rfl rfl) (GA.eff 8 rfl (by kernel_rfl) (GL.mnz (e := 5) (m := w .i64 ((w .i64 (2 * (Sl.cap x5 : Int))) + p_n)) h trivial rfl Qbp rfl rfl ?_)))
 intro r12 H13 h
 obtain ⟨hle11, h⟩ := h
 refine GA.back hle11 ?_
 obtain ⟨h15, h16, h17, h18, t14, h19, h⟩ := h
 refine Zp 14 rfl (OV.sliceSl (s := r12) h15 h16 h17 h18 h19 rfl rfl rfl rfl rfl rfl rfl (fun h => by first | rfl | cases h) rfl rfl) (Zp 15 rfl Ya (GA.done (by kernel_rfl) (GL.nil (Zo (Zm (Zm ?_))))))
 obtain ⟨p20, hp21, h⟩ := h
 refine Zv (OV.nilCheck (q := p_b) rfl hp21) (Zf (Yl h fun x22 h => ?_))
 refine GL.copyG (s := t14) (s2 := x22) (z := 1) h trivial rfl rfl rfl rfl rfl ?_
 intro r24 H25 h
 refine GL.nil (GC.region (Zm (Zm ?_)))
 obtain ⟨p26, hp27, h⟩ := h
 refine Zv (OV.nilCheck (q := p_b) rfl hp27) (Zf (GL.storeG (p := (p26.1, p26.2 + 1)) (v := slv t14) h trivial rfl rfl rfl rfl ?_))
 intro H28 h
 exact GL.ends (fun _ _ hf hs => QC rfl hf hs ⟨rfl, h⟩)
def Qfk (C : Ctx) (p_l : Sl) (K : Bool → Heap → Prop) (H : Heap) : Prop :=
 Qs C p_l (.func (.func 102) (List.toArray []) (List.toArray []) : Value) (fun r1 H2 =>
 K (!r1) H2) H
theorem Qhh (C p_l K H) (h : Qfk C p_l K H) : Qdb C p_l K H := by
 refine Ye Tryz.func68 rfl Tryz.ntmps68 [(0, slv p_l)] (Zo (Za (GL.nil (Zo (Zm (Zc h Qan ?_))))))
 rintro _ H2 ⟨r1, rfl, h⟩
 refine Zv (OV.not rfl) (Za (GL.nil ?_))
 exact Y1 I3 ⟨(!r1), rfl, h⟩
def QeR (C : Ctx) (p_a : Bool) (p_b : Bool) (K : Int → Heap → Prop) (H : Heap) : Prop :=
 ift (p_a == p_b)
 (K 0 H)
 (ift p_a
 (K (-1) H)
 (K 1 H))
theorem QgM (C p_a p_b K H) (h : QeR C p_a p_b K H) : QdG C p_a p_b K H := by
 refine Ye Tryz.func69 rfl Tryz.ntmps69 [(0, .bool p_a), (1, .bool p_b)] (Zo (Za (GL.nil (GC.seq (GC.block (Zo (Zm (Zm (Zv (OV.eqlBool rfl rfl rfl) (Za (GL.nil (Yd h (fun u1 h => ?_) fun u1 h => ?_))))))))))))
 refine Zo (Za (GL.nil ?_))
 exact Y1 I3 ⟨0, rfl, h⟩
 refine Zo (Zm (Za (GL.nil (Yd h (fun u2 h => ?_) fun u2 h => ?_))))
 refine Zo (Za (GL.nil ?_))
 exact Y1 I3 ⟨(-1), rfl, h⟩
 refine GC.skip_to (fun _ _ h => h) (Zo (Za (GL.nil ?_)))
 exact Y1 I3 ⟨1, rfl, h⟩
def QeT (C : Ctx) (p_a : Sl) (p_b : Sl) (K : Int → Heap → Prop) (H : Heap) : Prop :=
 Qb C p_a p_b (.func (.func 104) (List.toArray []) (List.toArray []) : Value) (fun r1 H2 =>
 K r1 H2) H
theorem QgO (C p_a p_b K H) (h : QeT C p_a p_b K H) : Qbt C p_a p_b K H := by
 refine Ye Tryz.func70 rfl Tryz.ntmps70 [(0, slv p_a), (1, slv p_b)] (Zo (Za (GL.nil (Zo (Zm (Zm (Zc h QJ ?_)))))))
 rintro _ H2 ⟨r1, rfl, h⟩
 refine Za (GL.nil ?_)
 exact Y1 I3 ⟨r1, rfl, h⟩
def QdS (C : Ctx) (p_s : Str) (K : Int → Bool → Heap → Prop) (H : Heap) : Prop :=
 QaP C p_s [45] (fun r1 H2 =>
 jn (α := Bool) (fun b3 H9 =>
 jn (α := Bool) (fun b10 H18 =>
 ift b10
 (K 0 false H18)
 (K (List.length r1 : Int) true H18))
 (fun J11 => ift b3
 (J11 true H9)
 (ixs r1 0 fun c14 =>
 J11 ((((c14.toNat : Int) : Int) == 48) && (!(p_s == ([48] : Str)))) H9)))
 (fun J4 => ift (r1 == ([] : Str))
 (J4 true H2)
 (Qaa C r1 [48, 49, 50, 51, 52, 53, 54, 55, 56, 57] (fun r7 H8 =>
 J4 (!(r7 == ([] : Str))) H8) H2))) H
theorem QfI (C p_s K H) (h : QdS C p_s K H) : QcD C p_s K H := by
 refine Ye Tryz.func74 rfl Tryz.ntmps74 [(0, sv p_s)] (Zo (Za (Za (GL.nil (Zo (Zm (Zc h QdJ ?_)))))))
 rintro _ H2 ⟨r1, rfl, h⟩
 refine Za (GL.nil (GC.seq (Zo (Zm (Zv (OV.sbin (a := r1) (b := ([] : Str)) (v := .bool (r1 == ([] : Str))) rfl rfl rfl) (Zm ?_))))))
 obtain ⟨J4, h, hR5⟩ := h
 refine GL.cut (α := Bool) 4 J4 (fun b3 => [(13, .bool b3), (0, sv p_s), (4, sv r1)]) ?_ ?_
 rcases h.em with ⟨u6, h⟩ | ⟨u6, h⟩
 refine Zk u6 (Zk u6 (Zk u6 (Zt u6 ?_)))
 exact Yj I3 true h
 refine Zu u6 Ym (GL.call h (Yt u6) rfl QfW (vs := [sv r1, sv [48, 49, 50, 51, 52, 53, 54, 55, 56, 57]]) rfl ?_)
 rintro _ H8 ⟨r7, rfl, h⟩
 refine Zu u6 (OV.sbin (a := r7) (b := ([] : Str)) (v := .bool (!(r7 == ([] : Str)))) rfl rfl rfl) (Zn u6 ?_)
 exact Yj I3 (!(r7 == ([] : Str))) h
 intro b3 H9 h
 replace h := hR5 b3 H9 h
 refine Zm ?_
 obtain ⟨J11, h, hR12⟩ := h
 refine GL.cut (α := Bool) 8 J11 (fun b10 => [(22, .bool b10), (4, sv r1)]) ?_ ?_
 rcases h.em with ⟨u13, h⟩ | ⟨u13, h⟩
 refine Zk u13 (Zk u13 (Zk u13 (Zk u13 (GL.skip ⟨_, rfl, .inr rfl⟩ rfl (GL.skip ⟨_, rfl, .inr rfl⟩ rfl (Zk u13 (Zt u13 ?_)))))))
 exact Yj I3 true h
 refine Zu u13 Ym ?_
 obtain ⟨c14, ha15, hb16, h⟩ := h
 refine Zu u13 (OV.indexStr rfl rfl rfl ha15 hb16) (Zu u13 (OV.ibin (v := .bool (((c14.toNat : Int) : Int) == 48)) rfl rfl rfl) (Zu u13 Ym (GL.cut0 3 [(21, .bool ((((c14.toNat : Int) : Int) == 48) && (!(p_s == ([48] : Str))))), (4, sv r1), (14, .bool b3)] ?_ ?_)))
 rcases Zb (((c14.toNat : Int) : Int) == 48) with u17 | u17
 refine Zu u17 Ym (Zu u17 (OV.sbin (a := p_s) (b := ([48] : Str)) (v := .bool (!(p_s == ([48] : Str)))) rfl rfl rfl) (Zu u13 (OV.pickT rfl u17 rfl) ?_))
 exact GL.jump0 (fun _ _ h => h) () rfl ⟨(by rw [u17]; rfl), rfl, rfl, trivial⟩
 refine Zk u17 (Zk u17 (Zu u13 (OV.pickF rfl u17 rfl) ?_))
 exact GL.jump0 (fun _ _ h => h) () rfl ⟨(by rw [u17]; rfl), rfl, rfl, trivial⟩
 refine Zn u13 ?_
 exact Yj I3 ((((c14.toNat : Int) : Int) == 48) && (!(p_s == ([48] : Str)))) h
 intro b10 H18 h
 replace h := hR12 b10 H18 h
 refine GL.nil (Yd h (fun u19 h => ?_) fun u19 h => ?_)
 refine Zo (Za (Za (GL.nil ?_)))
 exact Y2 I3 ⟨0, false, rfl, h⟩
 refine GC.skip (Zo (Zm (Zr (Za (Za (GL.nil ?_))))))
 exact Y2 I3 ⟨(List.length r1 : Int), true, rfl, h⟩
def Qee (C : Ctx) (p_s : Str) (p_sep : Str) (K : Str → Str → Bool → Heap → Prop) (H : Heap) : Prop :=
 QaO C p_s p_sep (fun r1 r2 r3 H4 =>
 K r1 r2 r3 H4) H
theorem Qgh (C p_s p_sep K H) (h : Qee C p_s p_sep K H) : Qc9 C p_s p_sep K H := by
 refine Ye Tryz.func75 rfl Tryz.ntmps75 [(0, sv p_s), (1, sv p_sep)] (Zo (Za (Za (Za (GL.nil (Zo (Zm (Zm (Zc h QbU ?_)))))))))
 rintro _ H4 ⟨r1, r2, r3, rfl, h⟩
 refine Yv (sv r1) rfl rfl (Yv (sv r2) rfl rfl (Yv (.bool r3) rfl rfl (Za (Za (Za (GL.nil ?_))))))
 exact Y3 I3 ⟨r1, r2, r3, rfl, h⟩
def QeS (C : Ctx) (p_s : Str) (K : Bool → Heap → Prop) (H : Heap) : Prop :=
 jn (α := Bool) (fun b2 H9 =>
 jn (α := Bool) (fun b10 H17 =>
 ift b10
 (K false H17)
 (lp (α := Int) 0 H17 (fun x19 J20 H21 =>
 ift (decide ((x19 : Int) < (List.length p_s : Int)))
 (ixs p_s x19 fun c23 =>
 ift (!(((((decide (((c23.toNat : Int) : Int) ≥ 97)) && (decide (((c23.toNat : Int) : Int) ≤ 122))) || ((decide (((c23.toNat : Int) : Int) ≥ 65)) && (decide (((c23.toNat : Int) : Int) ≤ 90)))) || ((decide (((c23.toNat : Int) : Int) ≥ 48)) && (decide (((c23.toNat : Int) : Int) ≤ 57)))) || (((c23.toNat : Int) : Int) == 95)))
 (K false H21)
 (J20 (w .i64 (x19 + 1)) H21))
 (K true H21))))
 (fun J11 => ift b2
 (J11 true H9)
 (ixs p_s 0 fun c14 =>
 J11 (decide (((c14.toNat : Int) : Int) > 122)) H9)))
 (fun J3 => ift ((p_s == ([] : Str)) || (decide (((List.length p_s : Int) : Int) > 32)))
 (J3 true H)
 (ixs p_s 0 fun c6 =>
 J3 (decide (((c6.toNat : Int) : Int) < 97)) H))
theorem QgN (C p_s K H) (h : QeS C p_s K H) : Qa2 C p_s K H := by
 refine Ye Tryz.func76 rfl Tryz.ntmps76 [(0, sv p_s)] (Zo (Za (GL.nil (GC.seq (Zo (Zm (Zv (OV.sbin (a := p_s) (b := ([] : Str)) (v := .bool (p_s == ([] : Str))) rfl rfl rfl) (Zm (GL.cut0 4 [(11, .bool ((p_s == ([] : Str)) || (decide (((List.length p_s : Int) : Int) > 32)))), (0, sv p_s)] ?_ ?_)))))))))
 rcases Zb (p_s == ([] : Str)) with hc1 | hc1
 refine Zk hc1 (Zk hc1 (Zk hc1 (Zt hc1 ?_)))
 exact GL.jump0 (fun _ _ h => h) () rfl ⟨(by rw [hc1]; rfl), rfl, trivial⟩
 refine Zu hc1 Ym (Zu hc1 (OV.lenStr rfl rfl) (Zu hc1 (OV.ibin (v := .bool (decide (((List.length p_s : Int) : Int) > 32))) rfl rfl rfl) (Zn hc1 ?_)))
 exact GL.jump0 (fun _ _ h => h) () rfl ⟨(by rw [hc1]; rfl), rfl, trivial⟩
 refine Zm ?_
 obtain ⟨J3, h, hR4⟩ := h
 refine GL.cut (α := Bool) 4 J3 (fun b2 => [(16, .bool b2), (0, sv p_s)]) ?_ ?_
 rcases h.em with ⟨hc5, h⟩ | ⟨hc5, h⟩
 refine Zk hc5 (Zk hc5 (Zk hc5 (Zt hc5 ?_)))
 exact Yj I3 true h
 refine Zu hc5 Ym ?_
 obtain ⟨c6, ha7, hb8, h⟩ := h
 refine Zu hc5 (OV.indexStr rfl rfl rfl ha7 hb8) (Zu hc5 (OV.ibin (v := .bool (decide (((c6.toNat : Int) : Int) < 97))) rfl rfl rfl) (Zn hc5 ?_))
 exact Yj I3 (decide (((c6.toNat : Int) : Int) < 97)) h
 intro b2 H9 h
 replace h := hR4 b2 H9 h
 refine Zm ?_
 obtain ⟨J11, h, hR12⟩ := h
 refine GL.cut (α := Bool) 4 J11 (fun b10 => [(21, .bool b10), (0, sv p_s)]) ?_ ?_
 rcases h.em with ⟨hc13, h⟩ | ⟨hc13, h⟩
 refine Zk hc13 (Zk hc13 (Zk hc13 (Zt hc13 ?_)))
 exact Yj I3 true h
 refine Zu hc13 Ym ?_
 obtain ⟨c14, ha15, hb16, h⟩ := h
 refine Zu hc13 (OV.indexStr rfl rfl rfl ha15 hb16) (Zu hc13 (OV.ibin (v := .bool (decide (((c14.toNat : Int) : Int) > 122))) rfl rfl rfl) (Zn hc13 ?_))
 exact Yj I3 (decide (((c14.toNat : Int) : Int) > 122)) h
 intro b10 H17 h
 replace h := hR12 b10 H17 h
 refine GL.nil (Yd h (fun hc18 h => ?_) fun hc18 h => ?_)
 refine Zo (Za (GL.nil ?_))
 exact Y1 I3 ⟨false, rfl, h⟩
 refine GC.skip (GC.seq (Zo (Zm (Zr (Zm (GL.nil (GC.block (Yp h (fun x19 => [(24, .int .i64 x19), (0, sv p_s), (23, .int .i64 (List.length p_s : Int))]) ?_))))))))
 intro x19 H21 J20 h
 refine Zo (Zi (.bool (decide ((x19 : Int) < (List.length p_s : Int)))) (GL.nil (GC.seq (Yd h (fun hc22 h => ?_) fun hc22 h => ?_))))
 refine GC.skip (GC.seq (GC.block (Zo (Zm (Za (GL.nil (Zo (Zm (Zm (Ys h fun c23 h => ?_))))))))))
 refine Za (GL.nil (Zo (Zm (Zi (.bool (decide (((c23.toNat : Int) : Int) ≥ 97))) (Zm (GL.cut0 3 [(35, .bool ((decide (((c23.toNat : Int) : Int) ≥ 97)) && (decide (((c23.toNat : Int) : Int) ≤ 122)))), (0, sv p_s), (4, .int .u8 (c23.toNat : Int)), (23, .int .i64 (List.length p_s : Int)), (24, .int .i64 x19)] ?_ ?_))))))
 rcases Zb (decide (((c23.toNat : Int) : Int) ≥ 97)) with hc26 | hc26
 refine Zu hc26 Ym (Zu hc26 (OV.ibin (v := .bool (decide (((c23.toNat : Int) : Int) ≤ 122))) rfl rfl rfl) (Zt hc26 ?_))
 exact GL.jump0 (fun _ _ h => h) () rfl ⟨(by rw [hc26]; rfl), rfl, rfl, rfl, rfl, trivial⟩
 refine Zk hc26 (Zk hc26 (Zn hc26 ?_))
 exact GL.jump0 (fun _ _ h => h) () rfl ⟨(by rw [hc26]; rfl), rfl, rfl, rfl, rfl, trivial⟩
 refine Zm (GL.cut0 7 [(43, .bool (((decide (((c23.toNat : Int) : Int) ≥ 97)) && (decide (((c23.toNat : Int) : Int) ≤ 122))) || ((decide (((c23.toNat : Int) : Int) ≥ 65)) && (decide (((c23.toNat : Int) : Int) ≤ 90))))), (0, sv p_s), (4, .int .u8 (c23.toNat : Int)), (23, .int .i64 (List.length p_s : Int)), (24, .int .i64 x19)] ?_ ?_)
 rcases Zb ((decide (((c23.toNat : Int) : Int) ≥ 97)) && (decide (((c23.toNat : Int) : Int) ≤ 122))) with hc27 | hc27
 refine Zk hc27 (Zk hc27 (Zk hc27 (GL.skip ⟨_, rfl, .inr rfl⟩ rfl (GL.skip ⟨_, rfl, .inr rfl⟩ rfl (Zk hc27 (Zt hc27 ?_))))))
 exact GL.jump0 (fun _ _ h => h) () rfl ⟨(by rw [hc27]; rfl), rfl, rfl, rfl, rfl, trivial⟩
 refine Zu hc27 Ym (Zu hc27 (OV.ibin (v := .bool (decide (((c23.toNat : Int) : Int) ≥ 65))) rfl rfl rfl) (Zu hc27 Ym (GL.cut0 3 [(42, .bool ((decide (((c23.toNat : Int) : Int) ≥ 65)) && (decide (((c23.toNat : Int) : Int) ≤ 90)))), (0, sv p_s), (4, .int .u8 (c23.toNat : Int)), (23, .int .i64 (List.length p_s : Int)), (24, .int .i64 x19), (36, .bool ((decide (((c23.toNat : Int) : Int) ≥ 97)) && (decide (((c23.toNat : Int) : Int) ≤ 122))))] ?_ ?_)))
 rcases Zb (decide (((c23.toNat : Int) : Int) ≥ 65)) with hc28 | hc28
 refine Zu hc28 Ym (Zu hc28 (OV.ibin (v := .bool (decide (((c23.toNat : Int) : Int) ≤ 90))) rfl rfl rfl) (Zu hc27 (OV.pickT rfl hc28 rfl) ?_))
 exact GL.jump0 (fun _ _ h => h) () rfl ⟨(by rw [hc28]; rfl), rfl, rfl, rfl, rfl, rfl, trivial⟩
 refine Zk hc28 (Zk hc28 (Zu hc27 (OV.pickF rfl hc28 rfl) ?_))
 exact GL.jump0 (fun _ _ h => h) () rfl ⟨(by rw [hc28]; rfl), rfl, rfl, rfl, rfl, rfl, trivial⟩
 refine Zn hc27 ?_
 exact GL.jump0 (fun _ _ h => h) () rfl ⟨(by rw [hc27]; rfl), rfl, rfl, rfl, rfl, trivial⟩
 refine Zm (GL.cut0 7 [(51, .bool ((((decide (((c23.toNat : Int) : Int) ≥ 97)) && (decide (((c23.toNat : Int) : Int) ≤ 122))) || ((decide (((c23.toNat : Int) : Int) ≥ 65)) && (decide (((c23.toNat : Int) : Int) ≤ 90)))) || ((decide (((c23.toNat : Int) : Int) ≥ 48)) && (decide (((c23.toNat : Int) : Int) ≤ 57))))), (0, sv p_s), (4, .int .u8 (c23.toNat : Int)), (23, .int .i64 (List.length p_s : Int)), (24, .int .i64 x19)] ?_ ?_)
 rcases Zb (((decide (((c23.toNat : Int) : Int) ≥ 97)) && (decide (((c23.toNat : Int) : Int) ≤ 122))) || ((decide (((c23.toNat : Int) : Int) ≥ 65)) && (decide (((c23.toNat : Int) : Int) ≤ 90)))) with hc29 | hc29
 refine Zk hc29 (Zk hc29 (Zk hc29 (GL.skip ⟨_, rfl, .inr rfl⟩ rfl (GL.skip ⟨_, rfl, .inr rfl⟩ rfl (Zk hc29 (Zt hc29 ?_))))))
 exact GL.jump0 (fun _ _ h => h) () rfl ⟨(by rw [hc29]; rfl), rfl, rfl, rfl, rfl, trivial⟩
 refine Zu hc29 Ym (Zu hc29 (OV.ibin (v := .bool (decide (((c23.toNat : Int) : Int) ≥ 48))) rfl rfl rfl) (Zu hc29 Ym (GL.cut0 3 [(50, .bool ((decide (((c23.toNat : Int) : Int) ≥ 48)) && (decide (((c23.toNat : Int) : Int) ≤ 57)))), (0, sv p_s), (4, .int .u8 (c23.toNat : Int)), (23, .int .i64 (List.length p_s : Int)), (24, .int .i64 x19), (44, .bool (((decide (((c23.toNat : Int) : Int) ≥ 97)) && (decide (((c23.toNat : Int) : Int) ≤ 122))) || ((decide (((c23.toNat : Int) : Int) ≥ 65)) && (decide (((c23.toNat : Int) : Int) ≤ 90)))))] ?_ ?_)))
 rcases Zb (decide (((c23.toNat : Int) : Int) ≥ 48)) with hc30 | hc30
 refine Zu hc30 Ym (Zu hc30 (OV.ibin (v := .bool (decide (((c23.toNat : Int) : Int) ≤ 57))) rfl rfl rfl) (Zu hc29 (OV.pickT rfl hc30 rfl) ?_))
 exact GL.jump0 (fun _ _ h => h) () rfl ⟨(by rw [hc30]; rfl), rfl, rfl, rfl, rfl, rfl, trivial⟩
 refine Zk hc30 (Zk hc30 (Zu hc29 (OV.pickF rfl hc30 rfl) ?_))
 exact GL.jump0 (fun _ _ h => h) () rfl ⟨(by rw [hc30]; rfl), rfl, rfl, rfl, rfl, rfl, trivial⟩
 refine Zn hc29 ?_
 exact GL.jump0 (fun _ _ h => h) () rfl ⟨(by rw [hc29]; rfl), rfl, rfl, rfl, rfl, trivial⟩
 refine Zm (GL.cut0 3 [(55, .bool (((((decide (((c23.toNat : Int) : Int) ≥ 97)) && (decide (((c23.toNat : Int) : Int) ≤ 122))) || ((decide (((c23.toNat : Int) : Int) ≥ 65)) && (decide (((c23.toNat : Int) : Int) ≤ 90)))) || ((decide (((c23.toNat : Int) : Int) ≥ 48)) && (decide (((c23.toNat : Int) : Int) ≤ 57)))) || (((c23.toNat : Int) : Int) == 95))), (0, sv p_s), (23, .int .i64 (List.length p_s : Int)), (24, .int .i64 x19)] ?_ ?_)
 rcases Zb ((((decide (((c23.toNat : Int) : Int) ≥ 97)) && (decide (((c23.toNat : Int) : Int) ≤ 122))) || ((decide (((c23.toNat : Int) : Int) ≥ 65)) && (decide (((c23.toNat : Int) : Int) ≤ 90)))) || ((decide (((c23.toNat : Int) : Int) ≥ 48)) && (decide (((c23.toNat : Int) : Int) ≤ 57)))) with hc31 | hc31
 refine Zk hc31 (Zk hc31 (Zt hc31 ?_))
 exact GL.jump0 (fun _ _ h => h) () rfl ⟨(by rw [hc31]; rfl), rfl, rfl, rfl, trivial⟩
 refine Zu hc31 Ym (Zu hc31 (OV.ibin (v := .bool (((c23.toNat : Int) : Int) == 95)) rfl rfl rfl) (Zn hc31 ?_))
 exact GL.jump0 (fun _ _ h => h) () rfl ⟨(by rw [hc31]; rfl), rfl, rfl, rfl, trivial⟩
 refine Zv (OV.not rfl) (GL.nil (Yd h (fun hc32 h => ?_) fun hc32 h => ?_))
 refine Zo (Za (GL.nil ?_))
 exact Y1 I3 ⟨false, rfl, h⟩
 refine GC.skip_to (fun _ _ h => h) (GC.region (Zi (.int .i64 (w .i64 (x19 + 1))) (Zm ?_)))
 exact Yj I3 (w .i64 (x19 + 1)) h
 refine GC.exit_to (fun _ _ h => h) (Zo (Za (GL.nil ?_)))
 exact Y1 I3 ⟨true, rfl, h⟩
def QaR (C : Ctx) (p_s : Sl) (K : Sl → Heap → Prop) (H : Heap) : Prop :=
 ift (Sl.isNil p_s)
 (K Sl.nil H)
 (nw ([]) (fun b2 H3 =>
 apS ([.int .u8 0]) 1 (Sl.of (some (b2, 0)) 0 0) p_s (fun r4 H5 =>
 K r4 H5) H3) H)
theorem Qcw (C p_s K H) (h : QaR C p_s K H) : Qae C p_s K H := by
 refine Ye Tryz.func77 rfl Tryz.ntmps77 [(0, slv p_s)] (Zo (Za (GL.nil (GC.seq (Zo (Zm (Zv (OV.eqlSl (s := p_s) rfl rfl rfl) (GL.nil (Yd h (fun hc1 h => ?_) fun hc1 h => ?_)))))))))
 refine Zo (Za (GL.nil ?_))
 exact Y1 I3 ⟨Sl.nil, rfl, h⟩
 refine GC.skip (Zo (GL.buildSlice (cs := []) h trivial rfl (vs := []) rfl ⟨5, fun _ => by kernel_rfl⟩ ?_))
 intro b2 H3 h
 refine Zm (GL.appendS (s := (Sl.of (some (b2, 0)) 0 0)) (s2 := p_s) (zc := [.int .u8 0]) (bytes := 1) h trivial rfl rfl rfl ⟨⟨_, _, _, rfl, rfl, rfl, rfl, rfl, rfl⟩⟩ rfl ?_)
 intro r4 H5 h
 refine Za (GL.nil ?_)
 exact Y1 I3 ⟨r4, rfl, h⟩
def QcR (C : Ctx) (p_p : Option (Nat × Nat)) (p_v : Qa) (K : Heap → Prop) (H : Heap) : Prop :=
 nw (Qa.c p_v) (fun b1 H2 =>
 ldI H2 .i64 ((b1, 0).1, (b1, 0).2 + 1) fun x3 =>
 nw ([.int .u8 (w .u8 x3)]) (fun b5 H6 =>
 Qn C p_p (Sl.of (some (b5, 0)) 1 1) (fun H7 =>
 K H7) H6) H2) H
theorem QeV (C p_p p_v K H) (h : QcR C p_p p_v K H) : Qby C p_p p_v K H := by
 refine Ye Tryz.func78 rfl Tryz.ntmps78 [(0, pv p_p), (1, .agg (Qa.c p_v).toArray)] (Zo (GL.box (v := .agg (Qa.c p_v).toArray) (cs := Qa.c p_v) h trivial rfl rfl rfl ?_))
 intro b1 H2 h
 refine GL.nil (GC.region (Zm (Zf (Yl h fun x3 h => ?_))))
 refine Zv (OV.convInt rfl rfl rfl) (GL.buildSlice (cs := [.int .u8 (w .u8 x3)]) h trivial rfl (vs := [(0, .int .u8 (w .u8 x3))]) rfl ⟨5, fun _ => by kernel_rfl⟩ ?_)
 intro b5 H6 h
 refine Zc h Qv ?_
 rintro _ H7 ⟨rfl, h⟩
 exact GL.ends (fun _ _ hf hs => QC rfl hf hs ⟨rfl, h⟩)
def QcT (C : Ctx) (p_p : Option (Nat × Nat)) (p_v : Qa) (K : Heap → Prop) (H : Heap) : Prop :=
 nw (Qa.c p_v) (fun b1 H2 =>
 ldI H2 .i64 ((b1, 0).1, (b1, 0).2 + 1) fun x3 =>
 QcA C p_p x3 (fun H5 =>
 K H5) H2) H
theorem QeX (C p_p p_v K H) (h : QcT C p_p p_v K H) : Qbz C p_p p_v K H := by
 refine Ye Tryz.func79 rfl Tryz.ntmps79 [(0, pv p_p), (1, .agg (Qa.c p_v).toArray)] (Zo (GL.box (v := .agg (Qa.c p_v).toArray) (cs := Qa.c p_v) h trivial rfl rfl rfl ?_))
 intro b1 H2 h
 refine GL.nil (GC.region (Zm (Zf (Yl h fun x3 h => ?_))))
 refine Zc h QfT ?_
 rintro _ H5 ⟨rfl, h⟩
 exact GL.ends (fun _ _ hf hs => QC rfl hf hs ⟨rfl, h⟩)
def QdM (C : Ctx) (p_p : Option (Nat × Nat)) (p_v : Qa) (K : Heap → Prop) (H : Heap) : Prop :=
 nw (Qa.c p_v) (fun b1 H2 =>
 ldS H2 ((b1, 0).1, (b1, 0).2 + 2) fun x3 =>
 Qa0 C x3 [45] (fun r5 r6 H7 =>
 Qad C p_p r6 (fun H8 =>
 nw ([.int .u8 128]) (fun b9 H10 =>
 Qn C p_p (Sl.of (some (b9, 0)) 1 1) (fun H11 =>
 QaL C p_p 0 (w .u64 (List.length r5 : Int)) (fun H12 =>
 s2b r5 (fun r13 H14 =>
 Qn C p_p r13 (fun H15 =>
 Qad C p_p r6 (fun H16 =>
 K H16) H15) H14) H12) H11) H10) H8) H7) H2) H
theorem QfC (C p_p p_v K H) (h : QdM C p_p p_v K H) : Qcz C p_p p_v K H := by
 refine Ye Tryz.func80 rfl Tryz.ntmps80 [(0, pv p_p), (1, .agg (Qa.c p_v).toArray)] (Zo (GL.box (v := .agg (Qa.c p_v).toArray) (cs := Qa.c p_v) h trivial rfl rfl rfl ?_))
 intro b1 H2 h
 refine GL.nil (Zo (Zf (Yl h fun x3 h => ?_)))
 refine Zc h Qd6 ?_
 rintro _ H7 ⟨r5, r6, rfl, h⟩
 refine Zm (Yv (sv r5) rfl rfl (Yv (.bool r6) rfl rfl (Za (Za (GL.nil (Zo (Zm (Zm (Zc h QaV ?_)))))))))
 rintro _ H8 ⟨rfl, h⟩
 refine GL.nil (Zo (Zm (GL.buildSlice (cs := [.int .u8 128]) h trivial rfl (vs := [(0, .int .u8 128)]) rfl ⟨5, fun _ => by kernel_rfl⟩ ?_)))
 intro b9 H10 h
 refine Zc h Qv ?_
 rintro _ H11 ⟨rfl, h⟩
 refine GL.nil (Zo (Zm (Zm (Zr (Zv (OV.convInt rfl rfl rfl) (Zc h Qcf ?_))))))
 rintro _ H12 ⟨rfl, h⟩
 refine GL.nil (Zo (Zm (Zm (GL.s2b (s := r5) h trivial rfl rfl rfl rfl rfl ?_))))
 intro r13 H14 h
 refine Zc h Qv ?_
 rintro _ H15 ⟨rfl, h⟩
 refine GL.nil (GC.region (Zm (Zm (Zc h QaV ?_))))
 rintro _ H16 ⟨rfl, h⟩
 exact GL.ends (fun _ _ hf hs => QC rfl hf hs ⟨rfl, h⟩)
def QcU (C : Ctx) (p_p : Option (Nat × Nat)) (p_v : Qa) (K : Heap → Prop) (H : Heap) : Prop :=
 nw (Qa.c p_v) (fun b1 H2 =>
 ldS H2 ((b1, 0).1, (b1, 0).2 + 2) fun x3 =>
 Qbc C p_p x3 (fun H5 =>
 K H5) H2) H
theorem QeY (C p_p p_v K H) (h : QcU C p_p p_v K H) : QbA C p_p p_v K H := by
 refine Ye Tryz.func81 rfl Tryz.ntmps81 [(0, pv p_p), (1, .agg (Qa.c p_v).toArray)] (Zo (GL.box (v := .agg (Qa.c p_v).toArray) (cs := Qa.c p_v) h trivial rfl rfl rfl ?_))
 intro b1 H2 h
 refine GL.nil (GC.region (Zm (Zf (Yl h fun x3 h => ?_))))
 refine Zc h Qds ?_
 rintro _ H5 ⟨rfl, h⟩
 exact GL.ends (fun _ _ hf hs => QC rfl hf hs ⟨rfl, h⟩)
def Qdx (C : Ctx) (p_p : Option (Nat × Nat)) (p_v : Qa) (K : Heap → Prop) (H : Heap) : Prop :=
 nw (Qa.c p_v) (fun b1 H2 =>
 ldL H2 ((b1, 0).1, (b1, 0).2 + 3) fun x3 =>
 lp (α := Int) 0 H2 (fun x5 J6 H7 =>
 ift (decide ((x5 : Int) < (Sl.len x3 : Int)))
 (ixa x3 x5 fun p9 =>
 ldT H7 Qa.c (p9.1, p9.2 + (x5 : Int).toNat * 4) fun x14 =>
 nw (Qa.c Qa.zero) (fun b16 H17 =>
 stT (b16, 0) (Qa.c x14) (fun H18 =>
 nw ([.int .u8 1]) (fun b19 H20 =>
 Qn C p_p (Sl.of (some (b19, 0)) 1 1) (fun H21 =>
 ldT H21 Qa.c (b16, 0) fun x22 =>
 QaU C p_p x22 (fun H24 =>
 J6 (w .i64 (x5 + 1)) H24) H21) H20) H18) H17) H7)
 (nw ([.int .u8 0]) (fun b25 H26 =>
 Qn C p_p (Sl.of (some (b25, 0)) 1 1) (fun H27 =>
 K H27) H26) H7))) H
theorem Qfp (C p_p p_v K H) (h : Qdx C p_p p_v K H) : Qbb C p_p p_v K H := by
 refine Ye Tryz.func82 rfl Tryz.ntmps82 [(0, pv p_p), (1, .agg (Qa.c p_v).toArray)] (Zo (GL.box (v := .agg (Qa.c p_v).toArray) (cs := Qa.c p_v) h trivial rfl rfl rfl ?_))
 intro b1 H2 h
 refine GL.nil (GC.seq (Zo (Zf (Yl h fun x3 h => ?_))))
 refine Zq (Zm (GL.nil (GC.block (Yp h (fun x5 => [(9, .int .i64 x5), (0, pv p_p), (7, slv x3), (8, .int .i64 (Sl.len x3 : Int))]) ?_))))
 intro x5 H7 J6 h
 refine Zo (Zi (.bool (decide ((x5 : Int) < (Sl.len x3 : Int)))) (GL.nil (GC.seq (Yd h (fun hc8 h => ?_) fun hc8 h => ?_))))
 refine GC.skip (GC.seq (GC.block (Zo (Yx h fun p9 h => ?_))))
 obtain ⟨x14, v15, h⟩ := h
 refine Zv (OV.loadT rfl rfl rfl v15) (GL.alloc (cs := Qa.c Qa.zero) h trivial rfl rfl rfl ?_)
 intro b16 H17 h
 refine GL.storeT (p := (b16, 0)) (vs := Qa.c x14) h trivial rfl rfl rfl rfl ?_
 intro H18 h
 refine GL.nil (Zo (Zm (GL.buildSlice (cs := [.int .u8 1]) h trivial rfl (vs := [(0, .int .u8 1)]) rfl ⟨5, fun _ => by kernel_rfl⟩ ?_)))
 intro b19 H20 h
 refine Zc h Qv ?_
 rintro _ H21 ⟨rfl, h⟩
 refine GL.nil (GC.region (Zm ?_))
 obtain ⟨x22, v23, h⟩ := h
 refine Zv (OV.loadT rfl rfl rfl v23) (Zc h QcO ?_)
 rintro _ H24 ⟨rfl, h⟩
 refine GL.nil_to (fun _ _ h => h) (GC.region (Zi (.int .i64 (w .i64 (x5 + 1))) (Zm ?_)))
 exact Yj I3 (w .i64 (x5 + 1)) h
 refine GC.exit_to (fun _ _ h => h) (GC.region (Zm (GL.buildSlice (cs := [.int .u8 0]) h trivial rfl (vs := [(0, .int .u8 0)]) rfl ⟨5, fun _ => by kernel_rfl⟩ ?_)))
 intro b25 H26 h
 refine Zc h Qv ?_
 rintro _ H27 ⟨rfl, h⟩
 exact GL.ends (fun _ _ hf hs => QC rfl hf hs ⟨rfl, h⟩)
def Qdv (C : Ctx) (p_p : Option (Nat × Nat)) (p_v : Qa) (K : Heap → Prop) (H : Heap) : Prop :=
 nw (Qa.c p_v) (fun b1 H2 =>
 ldS H2 ((b1, 0).1, (b1, 0).2 + 2) fun x3 =>
 Qbc C p_p x3 (fun H5 =>
 ldT H5 Qa.c (b1, 0) fun x6 =>
 Qbb C p_p x6 (fun H8 =>
 K H8) H5) H2) H
theorem Qfn (C p_p p_v K H) (h : Qdv C p_p p_v K H) : QbO C p_p p_v K H := by
 refine Ye Tryz.func83 rfl Tryz.ntmps83 [(0, pv p_p), (1, .agg (Qa.c p_v).toArray)] (Zo (GL.box (v := .agg (Qa.c p_v).toArray) (cs := Qa.c p_v) h trivial rfl rfl rfl ?_))
 intro b1 H2 h
 refine GL.nil (Zo (Zm (Zf (Yl h fun x3 h => ?_))))
 refine Zc h Qds ?_
 rintro _ H5 ⟨rfl, h⟩
 refine GL.nil (GC.region (Zm ?_))
 obtain ⟨x6, v7, h⟩ := h
 refine Zv (OV.loadT rfl rfl rfl v7) (Zc h Qdr ?_)
 rintro _ H8 ⟨rfl, h⟩
 exact GL.ends (fun _ _ hf hs => QC rfl hf hs ⟨rfl, h⟩)
def QdO (C : Ctx) (p_p : Option (Nat × Nat)) (p_l : Sl) (K : Heap → Prop) (H : Heap) : Prop :=
 lp (α := Int) 0 H (fun x1 J2 H3 =>
 ift (decide ((x1 : Int) < (Sl.len p_l : Int)))
 (ixa p_l x1 fun p5 =>
 ldI H3 .u8 (p5.1, p5.2 + (x1 : Int).toNat * 1) fun x10 =>
 dr H3 fun Hs12 =>
 nck p_p fun p14 =>
 ldL Hs12 (p14.1, p14.2 + 0) fun x16 =>
 nck p_p fun p18 =>
 ldI Hs12 .u8 (p18.1, p18.2 + 1) fun x20 =>
 nw ([.int .u8 (bXor .u8 x10 x20)]) (fun b23 H24 =>
 Heap.le Hs12 H24 ∧
 apS ([.int .u8 0]) 1 x16 (Sl.of (some (b23, 0)) 1 1) (fun r26 H27 =>
 Heap.le Hs12 H27 ∧
 nck p_p fun p28 =>
 st (p28.1, p28.2 + 0) (slv r26) (fun H30 =>
 J2 (w .i64 (x1 + 1)) H30) H27) H24) H3)
 (K H3))
theorem QfE (C p_p p_l K H) (h : QdO C p_p p_l K H) : Qn C p_p p_l K H := by
 refine Ye Tryz.func84 rfl Tryz.ntmps84 [(0, pv p_p), (1, slv p_l)] (Zo (Zm (Zq (Zm (GL.nil (GC.block (Yp h (fun x1 => [(8, .int .i64 x1), (0, pv p_p), (6, slv p_l), (7, .int .i64 (Sl.len p_l : Int))]) ?_)))))))
 intro x1 H3 J2 h
 refine Zo (Zi (.bool (decide ((x1 : Int) < (Sl.len p_l : Int)))) (GL.nil (GC.seq (Yd h (fun hc4 h => ?_) fun hc4 h => ?_))))
 refine GC.skip (GC.seq (GC.block (Zo (Yx h fun p5 h => ?_))))
 refine Yl h fun x10 h => ?_
 refine Za (GL.nil ?_)
 obtain ⟨Hs12, hle13, h⟩ := h
 refine GC.tail (Hs := Hs12) 15 (by kernel_rfl) hle13 (by kernel_rfl) (Zy 0 rfl Ym (Zy 1 rfl Ym ?_))
 obtain ⟨p14, hp15, h⟩ := h
 refine Zy 2 rfl (OV.nilCheck (q := p_p) rfl hp15) (Zy 3 rfl Yf ?_)
 obtain ⟨x16, v17, h⟩ := h
 refine Zy 4 rfl (Yo v17) (Zy 5 rfl Ym (Zy 6 rfl Ym ?_))
 obtain ⟨p18, hp19, h⟩ := h
 refine Zy 7 rfl (OV.nilCheck (q := p_p) rfl hp19) (Zy 8 rfl Yf ?_)
 obtain ⟨x20, v21, h⟩ := h
 refine Zy 9 rfl (Yo v21) (Zy 10 rfl (OV.ibin (v := .int .u8 (bXor .u8 x10 x20)) rfl rfl rfl) (GT.eff 11 rfl (by kernel_rfl) rfl (GL.buildSlice (cs := [.int .u8 (bXor .u8 x10 x20)]) h trivial rfl (vs := [(0, .int .u8 (bXor .u8 x10 x20))]) rfl ⟨5, fun _ => by kernel_rfl⟩ ?_)))
 intro b23 H24 h
 obtain ⟨hle22, h⟩ := h
 refine GT.back hle22 (GT.eff 12 rfl (by kernel_rfl) rfl (GL.appendS (s := x16) (s2 := (Sl.of (some (b23, 0)) 1 1)) (zc := [.int .u8 0]) (bytes := 1) h trivial rfl rfl rfl ⟨⟨_, _, _, rfl, rfl, rfl, rfl, rfl, rfl⟩⟩ rfl ?_))
 intro r26 H27 h
 obtain ⟨hle25, h⟩ := h
 refine GT.back hle25 ?_
 obtain ⟨p28, hp29, h⟩ := h
 refine Zy 13 rfl (OV.nilCheck (q := p_p) rfl hp29) (Zy 14 rfl Yf (GT.done (by kernel_rfl) ?_))
 show GL _ _ _ _ _ [_] _ _
 refine GL.store (p := (p28.1, p28.2 + 0)) (v := slv r26) h trivial rfl rfl rfl rfl ?_
 intro H30 h
 refine GL.nil_to (fun _ _ h => h) (GC.region (Zi (.int .i64 (w .i64 (x1 + 1))) (Zm ?_)))
 exact Yj I3 (w .i64 (x1 + 1)) h
 exact GC.exit_ends (fun _ _ hf hs => QC rfl hf hs ⟨rfl, h⟩)
def Qct (C : Ctx) (p_x : Int) (K : Int → Heap → Prop) (H : Heap) : Prop :=
 jn (α := Int × Int) (fun x2 H3 =>
 jn (α := Int × Int) (fun x7 H8 =>
 jn (α := Int × Int) (fun x12 H13 =>
 ixs [0, 1, 2, 2, 3, 3, 3, 3, 4, 4, 4, 4, 4, 4, 4, 4, 5, 5, 5, 5, 5, 5, 5, 5, 5, 5, 5, 5, 5, 5, 5, 5, 6, 6, 6, 6, 6, 6, 6, 6, 6, 6, 6, 6, 6, 6, 6, 6, 6, 6, 6, 6, 6, 6, 6, 6, 6, 6, 6, 6, 6, 6, 6, 6, 7, 7, 7, 7, 7, 7, 7, 7, 7, 7, 7, 7, 7, 7, 7, 7, 7, 7, 7, 7, 7, 7, 7, 7, 7, 7, 7, 7, 7, 7, 7, 7, 7, 7, 7, 7, 7, 7, 7, 7, 7, 7, 7, 7, 7, 7, 7, 7, 7, 7, 7, 7, 7, 7, 7, 7, 7, 7, 7, 7, 7, 7, 7, 7, 8, 8, 8, 8, 8, 8, 8, 8, 8, 8, 8, 8, 8, 8, 8, 8, 8, 8, 8, 8, 8, 8, 8, 8, 8, 8, 8, 8, 8, 8, 8, 8, 8, 8, 8, 8, 8, 8, 8, 8, 8, 8, 8, 8, 8, 8, 8, 8, 8, 8, 8, 8, 8, 8, 8, 8, 8, 8, 8, 8, 8, 8, 8, 8, 8, 8, 8, 8, 8, 8, 8, 8, 8, 8, 8, 8, 8, 8, 8, 8, 8, 8, 8, 8, 8, 8, 8, 8, 8, 8, 8, 8, 8, 8, 8, 8, 8, 8, 8, 8, 8, 8, 8, 8, 8, 8, 8, 8, 8, 8, 8, 8, 8, 8, 8, 8, 8, 8, 8, 8, 8, 8, 8, 8, 8, 8, 8, 8] (w .u8 x12.1) fun c16 =>
 K (w .i64 (x12.2 + (w .i64 (c16.toNat : Int)))) H13)
 (fun J11 => ift (decide ((x7.1 : Int) ≥ 256))
 (J11 ((sShr .u64 x7.1 8), (w .i64 (x7.2 + 8))) H8)
 (J11 (x7.1, x7.2) H8)))
 (fun J6 => ift (decide ((x2.1 : Int) ≥ 65536))
 (J6 ((sShr .u64 x2.1 16), (w .i64 (x2.2 + 16))) H3)
 (J6 (x2.1, x2.2) H3)))
 (fun J1 => ift (decide ((p_x : Int) ≥ 4294967296))
 (J1 ((sShr .u64 p_x 32), 32) H)
 (J1 (p_x, 0) H))
theorem Qex (C p_x K H) (h : Qct C p_x K H) : Qbo C p_x K H := by
 refine Ye Tryz.func100 rfl Tryz.ntmps100 [(0, .int .u64 p_x)] (Zo (Za (GL.nil ?_)))
 obtain ⟨J1, h, hR4⟩ := h
 refine GC.join (α := Int × Int) J1 (fun x2 => [(0, .int .u64 x2.1), (2, .int .i64 x2.2)]) ?_ ?_
 refine Zo (Zm (Zi (.bool (decide ((p_x : Int) ≥ 4294967296))) (GL.nil (Yd h (fun hc5 h => ?_) fun hc5 h => ?_))))
 refine Zo (Zm (Zv (OV.shr rfl rfl (by decide)) (Za (GL.nil (GC.region (Za ?_))))))
 exact Yj I3 ((sShr .u64 p_x 32), 32) h
 exact Yk I3 (p_x, 0) h
 intro x2 H3 h
 replace h := hR4 x2 H3 h
 obtain ⟨J6, h, hR9⟩ := h
 refine GC.join (α := Int × Int) J6 (fun x7 => [(0, .int .u64 x7.1), (2, .int .i64 x7.2)]) ?_ ?_
 refine Zo (Zm (Zi (.bool (decide ((x2.1 : Int) ≥ 65536))) (GL.nil (Yd h (fun hc10 h => ?_) fun hc10 h => ?_))))
 refine Zo (Zm (Zv (OV.shr rfl rfl (by decide)) (Za (GL.nil (GC.region (Zm (Zi (.int .i64 (w .i64 (x2.2 + 16))) (Za ?_))))))))
 exact Yj I3 ((sShr .u64 x2.1 16), (w .i64 (x2.2 + 16))) h
 exact Yk I3 (x2.1, x2.2) h
 intro x7 H8 h
 replace h := hR9 x7 H8 h
 obtain ⟨J11, h, hR14⟩ := h
 refine GC.join (α := Int × Int) J11 (fun x12 => [(0, .int .u64 x12.1), (2, .int .i64 x12.2)]) ?_ ?_
 refine Zo (Zm (Zi (.bool (decide ((x7.1 : Int) ≥ 256))) (GL.nil (Yd h (fun hc15 h => ?_) fun hc15 h => ?_))))
 refine Zo (Zm (Zv (OV.shr rfl rfl (by decide)) (Za (GL.nil (GC.region (Zm (Zi (.int .i64 (w .i64 (x7.2 + 8))) (Za ?_))))))))
 exact Yj I3 ((sShr .u64 x7.1 8), (w .i64 (x7.2 + 8))) h
 exact Yk I3 (x7.1, x7.2) h
 intro x12 H13 h
 replace h := hR14 x12 H13 h
 refine Zo (Zm (Zm (Zv (OV.convInt rfl rfl rfl) (Ys h fun c16 h => ?_))))
 refine Zv (OV.convInt rfl rfl rfl) (Zi (.int .i64 (w .i64 (x12.2 + (w .i64 (c16.toNat : Int))))) (Za (GL.nil ?_)))
 exact Y1 I3 ⟨(w .i64 (x12.2 + (w .i64 (c16.toNat : Int)))), rfl, h⟩
def QG (C : Ctx) (p_s : Sl) (p_f : Value) (K : Bool → Heap → Prop) (H : Heap) : Prop :=
 Qx C p_s p_f (fun r1 H2 =>
 K (decide ((r1 : Int) ≥ 0)) H2) H
theorem Qam (C p_s p_f K H) (h : QG C p_s p_f K H) : Qs C p_s p_f K H := by
 refine Ye Tryz.func101 rfl Tryz.ntmps101 [(0, slv p_s), (1, p_f)] (Zo (Za (GL.nil (Zo (Zm (Zm (Zc h QaF ?_)))))))
 rintro _ H2 ⟨r1, rfl, h⟩
 refine Zi (.bool (decide ((r1 : Int) ≥ 0))) (Za (GL.nil ?_))
 exact Y1 I3 ⟨(decide ((r1 : Int) ≥ 0)), rfl, h⟩
def Qeh (C : Ctx) (p_v : Qa) (K : Bool → Heap → Prop) (H : Heap) : Prop :=
 nw (Qa.c p_v) (fun b1 H2 =>
 ldT H2 Qa.c (b1, 0) fun x3 =>
 QP C x3 (fun r5 H6 =>
 K ((r5 : Int) != 0) H6) H2) H
theorem Qgk (C p_v K H) (h : Qeh C p_v K H) : Qak C p_v K H := by
 refine Ye Tryz.func102 rfl Tryz.ntmps102 [(0, .agg (Qa.c p_v).toArray)] (Zo (GL.box (v := .agg (Qa.c p_v).toArray) (cs := Qa.c p_v) h trivial rfl rfl rfl ?_))
 intro b1 H2 h
 refine Za (GL.nil (Zo ?_))
 obtain ⟨x3, v4, h⟩ := h
 refine Zv (OV.loadT rfl rfl rfl v4) (Zc h QcJ ?_)
 rintro _ H6 ⟨r5, rfl, h⟩
 refine Zi (.bool ((r5 : Int) != 0)) (Za (GL.nil ?_))
 exact Y1 I3 ⟨((r5 : Int) != 0), rfl, h⟩
end
section
set_option maxRecDepth 100000
open Go Go.Proofs
def Ql (C : Ctx) (p_s1 : Sl) (p_s2 : Sl) (p_cmp : Value) (K : Int → Heap → Prop) (H : Heap) : Prop :=
 lp (α := Int) 0 H (fun x1 J2 H3 =>
 ift (decide ((x1 : Int) < (Sl.len p_s1 : Int)))
 (ixa p_s1 x1 fun p5 =>
 ldT H3 Qa.c (p5.1, p5.2 + (x1 : Int).toNat * 4) fun x10 =>
 nw (Qa.c Qa.zero) (fun b12 H13 =>
 stT (b12, 0) (Qa.c x10) (fun H14 =>
 ift (decide ((x1 : Int) ≥ (Sl.len p_s2 : Int)))
 (K 1 H14)
 (ixa p_s2 x1 fun p16 =>
 ldT H14 Qa.c (p16.1, p16.2 + (x1 : Int).toNat * 4) fun x21 =>
 nw (Qa.c Qa.zero) (fun b23 H24 =>
 stT (b23, 0) (Qa.c x21) (fun H25 =>
 ldT H25 Qa.c (b12, 0) fun x26 =>
 ldT H25 Qa.c (b23, 0) fun x28 =>
 callU Tryz.prog C p_cmp [.agg (Qa.c x26).toArray, .agg (Qa.c x28).toArray] H25 (fun v H31 => ∃ (r30 : Int), v = .int .i64 r30 ∧
 ift ((r30 : Int) != 0)
 (K r30 H31)
 (J2 (w .i64 (x1 + 1)) H31))) H24) H14)) H13) H3)
 (ift (decide (((Sl.len p_s1 : Int) : Int) < (Sl.len p_s2 : Int)))
 (K (-1) H3)
 (K 0 H3)))
theorem QH (C p_s1 p_s2 p_cmp K H) (h : Ql C p_s1 p_s2 p_cmp K H) : Qb C p_s1 p_s2 p_cmp K H := by
 refine Ye Tryz.func103 rfl Tryz.ntmps103 [(0, slv p_s1), (1, slv p_s2), (2, p_cmp)] (Zo (Za (GL.nil (GC.seq (Zo (Zm (Zq (Zm (GL.nil (GC.block (Yp h (fun x1 => [(13, .int .i64 x1), (0, slv p_s1), (1, slv p_s2), (2, p_cmp), (11, slv p_s1), (12, .int .i64 (Sl.len p_s1 : Int))]) ?_)))))))))))
 intro x1 H3 J2 h
 refine Zo (Zi (.bool (decide ((x1 : Int) < (Sl.len p_s1 : Int)))) (GL.nil (GC.seq (Yd h (fun u4 h => ?_) fun u4 h => ?_))))
 refine GC.skip (GC.seq (GC.block (Zo (Zm (Yx h fun p5 h => ?_)))))
 obtain ⟨x10, v11, h⟩ := h
 refine Zv (OV.loadT rfl rfl rfl v11) (GL.alloc (cs := Qa.c Qa.zero) h trivial rfl rfl rfl ?_)
 intro b12 H13 h
 refine Za (GL.storeT (p := (b12, 0)) (vs := Qa.c x10) h trivial rfl rfl rfl rfl ?_)
 intro H14 h
 refine GL.nil (GC.seq (Zo (Zm (Zm (Zq (Zi (.bool (decide ((x1 : Int) ≥ (Sl.len p_s2 : Int)))) (GL.nil (Yd h (fun u15 h => ?_) fun u15 h => ?_))))))))
 refine Zo (Za (GL.nil ?_))
 exact Y1 I3 ⟨1, rfl, h⟩
 refine GC.skip (Zo (Zm (Zm (Yx h fun p16 h => ?_))))
 obtain ⟨x21, v22, h⟩ := h
 refine Zv (OV.loadT rfl rfl rfl v22) (GL.alloc (cs := Qa.c Qa.zero) h trivial rfl rfl rfl ?_)
 intro b23 H24 h
 refine GL.storeT (p := (b23, 0)) (vs := Qa.c x21) h trivial rfl rfl rfl rfl ?_
 intro H25 h
 refine GL.nil (Zo (Zm ?_))
 obtain ⟨x26, v27, h⟩ := h
 refine Zv (OV.loadT rfl rfl rfl v27) ?_
 obtain ⟨x28, v29, h⟩ := h
 refine Zv (OV.loadT rfl rfl rfl v29) (GL.callU (xv := p_cmp) (vs := [.agg (Qa.c x26).toArray, .agg (Qa.c x28).toArray]) h trivial rfl rfl rfl ?_)
 rintro _ H31 ⟨r30, rfl, h⟩
 refine Za (GL.nil (Zo (Zm (Zi (.bool ((r30 : Int) != 0)) (GL.nil (Yd h (fun u32 h => ?_) fun u32 h => ?_))))))
 refine Zo (Zm (Za (GL.nil ?_)))
 exact Y1 I3 ⟨r30, rfl, h⟩
 refine GC.skip_to (fun _ _ h => h) (GC.region (Zi (.int .i64 (w .i64 (x1 + 1))) (Zm ?_)))
 exact Yj I3 (w .i64 (x1 + 1)) h
 refine GC.exit_to (fun _ _ h => h) (GC.seq (Zo (Zm (Zq (Zm (Zq (Zi (.bool (decide (((Sl.len p_s1 : Int) : Int) < (Sl.len p_s2 : Int)))) (GL.nil ?_))))))))
 refine Yd h (fun u33 h => ?_) fun u33 h => ?_
 refine Zo (Za (GL.nil ?_))
 exact Y1 I3 ⟨(-1), rfl, h⟩
 refine GC.skip (Zo (Za (GL.nil ?_)))
 exact Y1 I3 ⟨0, rfl, h⟩
def QdT (C : Ctx) (p_x : Qa) (p_y : Qa) (K : Int → Heap → Prop) (H : Heap) : Prop :=
 nw (Qa.c p_x) (fun b1 H2 =>
 nw (Qa.c p_y) (fun b3 H4 =>
 ldT H4 Qa.c (b1, 0) fun x5 =>
 ldT H4 Qa.c (b3, 0) fun x7 =>
 QB C x5 x7 (fun r9 H10 =>
 K r9 H10) H4) H2) H
theorem QfJ (C p_x p_y K H) (h : QdT C p_x p_y K H) : Qar C p_x p_y K H := by
 refine Ye Tryz.func104 rfl Tryz.ntmps104 [(0, .agg (Qa.c p_x).toArray), (1, .agg (Qa.c p_y).toArray)] (Zo (GL.box (v := .agg (Qa.c p_x).toArray) (cs := Qa.c p_x) h trivial rfl rfl rfl ?_))
 intro b1 H2 h
 refine GL.box (v := .agg (Qa.c p_y).toArray) (cs := Qa.c p_y) h trivial rfl rfl rfl ?_
 intro b3 H4 h
 refine Za (GL.nil (Zo ?_))
 obtain ⟨x5, v6, h⟩ := h
 refine Zv (OV.loadT rfl rfl rfl v6) ?_
 obtain ⟨x7, v8, h⟩ := h
 refine Zv (OV.loadT rfl rfl rfl v8) (Zc h Qe5 ?_)
 rintro _ H10 ⟨r9, rfl, h⟩
 refine Za (GL.nil ?_)
 exact Y1 I3 ⟨r9, rfl, h⟩
def QcW (C : Ctx) (p_v : Qa) (p_w : Qa) (K : Int → Heap → Prop) (H : Heap) : Prop :=
 nw (Qa.c p_v) (fun b1 H2 =>
 nw (Qa.c p_w) (fun b3 H4 =>
 ldI H4 .u8 ((b1, 0).1, (b1, 0).2 + 0) fun x5 =>
 ldI H4 .u8 ((b3, 0).1, (b3, 0).2 + 0) fun x7 =>
 QaX C x5 x7 (fun r9 H10 =>
 ift ((r9 : Int) != 0)
 (K r9 H10)
 (ldI H10 .u8 ((b1, 0).1, (b1, 0).2 + 0) fun x12 =>
 ift ((x12 : Int) == 3)
 (ldS H10 ((b1, 0).1, (b1, 0).2 + 2) fun x15 =>
 ldS H10 ((b3, 0).1, (b3, 0).2 + 2) fun x17 =>
 Q2 C x15 x17 (fun r19 H20 =>
 K r19 H20) H10)
 (ift ((x12 : Int) == 4)
 (ldS H10 ((b1, 0).1, (b1, 0).2 + 2) fun x22 =>
 ldS H10 ((b3, 0).1, (b3, 0).2 + 2) fun x24 =>
 QM C x22 x24 (fun r26 H27 =>
 K r26 H27) H10)
 (dr H10 fun Hs28 =>
 ldI Hs28 .i64 ((b1, 0).1, (b1, 0).2 + 1) fun x30 =>
 ldI Hs28 .i64 ((b3, 0).1, (b3, 0).2 + 1) fun x32 =>
 ldS Hs28 ((b1, 0).1, (b1, 0).2 + 2) fun x34 =>
 ldS Hs28 ((b3, 0).1, (b3, 0).2 + 2) fun x36 =>
 ldL Hs28 ((b1, 0).1, (b1, 0).2 + 3) fun x38 =>
 ldL Hs28 ((b3, 0).1, (b3, 0).2 + 3) fun x40 =>
 QaW C x30 x32 (fun r43 H44 =>
 Heap.le Hs28 H44 ∧
 QM C x34 x36 (fun r46 H47 =>
 Heap.le Hs28 H47 ∧
 Qbt C x38 x40 (fun r49 H50 =>
 Heap.le Hs28 H50 ∧
 nw ([.int .i64 r43, .int .i64 r46, .int .i64 r49]) (fun b52 H53 =>
 Heap.le Hs28 H53 ∧
 Qca C (Sl.of (some (b52, 0)) 3 3) (fun r55 H56 =>
 Heap.le Hs28 H56 ∧
 K r55 H56) H53) H50) H47) H44) H10)))) H4) H2) H
theorem Qe0 (C p_v p_w K H) (h : QcW C p_v p_w K H) : QB C p_v p_w K H := by
 refine Ye Tryz.func105 rfl Tryz.ntmps105 [(0, .agg (Qa.c p_v).toArray), (1, .agg (Qa.c p_w).toArray)] (Zo (GL.box (v := .agg (Qa.c p_v).toArray) (cs := Qa.c p_v) h trivial rfl rfl rfl ?_))
 intro b1 H2 h
 refine GL.box (v := .agg (Qa.c p_w).toArray) (cs := Qa.c p_w) h trivial rfl rfl rfl ?_
 intro b3 H4 h
 refine Za (GL.nil (GC.seq (Zo (Zf (Yl h fun x5 h => ?_)))))
 refine Zf (Yl h fun x7 h => ?_)
 refine Zc h Qd5 ?_
 rintro _ H10 ⟨r9, rfl, h⟩
 refine Za (GL.nil (Zo (Zm (Zi (.bool ((r9 : Int) != 0)) (GL.nil (Yd h (fun u11 h => ?_) fun u11 h => ?_))))))
 refine Zo (Zm (Za (GL.nil ?_)))
 exact Y1 I3 ⟨r9, rfl, h⟩
 refine GC.skip (GC.seq (Zo (Zf (Yl h fun x12 h => ?_))))
 refine GL.nil (GC.block (Zo (Zi (.bool ((x12 : Int) == 3)) (Za (GL.nil (Yd h (fun u14 h => ?_) fun u14 h => ?_))))))
 refine Zo (Zf (Yl h fun x15 h => ?_))
 refine Zf (Yl h fun x17 h => ?_)
 refine Zc h QeI ?_
 rintro _ H20 ⟨r19, rfl, h⟩
 refine Za (GL.nil ?_)
 exact Y1 I3 ⟨r19, rfl, h⟩
 refine Zo (Zi (.bool ((x12 : Int) == 4)) (Za (GL.nil (Yd h (fun u21 h => ?_) fun u21 h => ?_))))
 refine Zo (Zf (Yl h fun x22 h => ?_))
 refine Zf (Yl h fun x24 h => ?_)
 refine Zc h QaE ?_
 rintro _ H27 ⟨r26, rfl, h⟩
 refine Za (GL.nil ?_)
 exact Y1 I3 ⟨r26, rfl, h⟩
 refine GC.skip_to (fun _ _ h => h) (GC.seq ?_)
 obtain ⟨Hs28, hle29, h⟩ := h
 refine GC.any (Hs := Hs28) (by kernel_rfl) hle29 (Zp 0 rfl Yf ?_)
 obtain ⟨x30, v31, h⟩ := h
 refine Zp 1 rfl (Yo v31) (Zp 2 rfl Yf ?_)
 obtain ⟨x32, v33, h⟩ := h
 refine Zp 3 rfl (Yo v33) (Zp 5 rfl Yf ?_)
 obtain ⟨x34, v35, h⟩ := h
 refine Zp 6 rfl (Yo v35) (Zp 7 rfl Yf ?_)
 obtain ⟨x36, v37, h⟩ := h
 refine Zp 8 rfl (Yo v37) (Zp 10 rfl Yf ?_)
 obtain ⟨x38, v39, h⟩ := h
 refine Zp 11 rfl (Yo v39) (Zp 12 rfl Yf ?_)
 obtain ⟨x40, v41, h⟩ := h
 refine Zp 13 rfl (Yo v41) (GA.eff 4 rfl (by kernel_rfl) (Zc h Qd4 ?_))
 rintro _ H44 ⟨r43, rfl, h⟩
 obtain ⟨hle42, h⟩ := h
 refine GA.back hle42 (GA.eff 9 rfl (by kernel_rfl) (Zc h QaE ?_))
 rintro _ H47 ⟨r46, rfl, h⟩
 obtain ⟨hle45, h⟩ := h
 refine GA.back hle45 (GA.eff 14 rfl (by kernel_rfl) (Zc h QeK ?_))
 rintro _ H50 ⟨r49, rfl, h⟩
 obtain ⟨hle48, h⟩ := h
 refine GA.back hle48 (GA.eff 15 rfl (by kernel_rfl) (GL.buildSlice (cs := [.int .i64 r43, .int .i64 r46, .int .i64 r49]) h trivial rfl (vs := [(0, .int .i64 r43), (1, .int .i64 r46), (2, .int .i64 r49)]) rfl ⟨3, fun _ => by kernel_rfl⟩ ?_))
 intro b52 H53 h
 obtain ⟨hle51, h⟩ := h
 refine GA.back hle51 (GA.eff 16 rfl (by kernel_rfl) (Zc h QeF ?_))
 rintro _ H56 ⟨r55, rfl, h⟩
 obtain ⟨hle54, h⟩ := h
 refine GA.back hle54 (Zp 17 rfl Ya (GA.done (by kernel_rfl) (GL.nil ?_)))
 exact Y1 I3 ⟨r55, rfl, h⟩
def Qbw (C : Ctx) (p_s : Str) (p_prefix : Str) (K : Str → Heap → Prop) (H : Heap) : Prop :=
 QZ C p_s p_prefix (fun r1 H2 =>
 K r1 H2) H
theorem QdE (C p_s p_prefix K H) (h : Qbw C p_s p_prefix K H) : QaP C p_s p_prefix K H := by
 refine Ye Tryz.func109 rfl Tryz.ntmps109 [(0, sv p_s), (1, sv p_prefix)] (Zo (Za (GL.nil (Zo (Zm (Zm (Zc h Qa6 ?_)))))))
 rintro _ H2 ⟨r1, rfl, h⟩
 refine Za (GL.nil ?_)
 exact Y1 I3 ⟨r1, rfl, h⟩
def QdR (C : Ctx) (p_s : Str) (p_cutset : Str) (K : Str → Heap → Prop) (H : Heap) : Prop :=
 ift ((p_s == ([] : Str)) || (p_cutset == ([] : Str)))
 (K p_s H)
 (jn (α := Bool) (fun b3 H10 =>
 ift b3
 (dr H10 fun Hs12 =>
 ixs p_cutset 0 fun c14 =>
 ixs p_cutset 0 fun c17 =>
 Qda C p_s (c14.toNat : Int) (fun r21 H22 =>
 Heap.le Hs12 H22 ∧
 QdC C r21 (c17.toNat : Int) (fun r24 H25 =>
 Heap.le Hs12 H25 ∧
 K r24 H25) H22) H10)
 (Qu C p_cutset (fun r26 r27 H28 =>
 nw ((List.replicate 256 (.bool false : Value))) (fun b29 H30 =>
 stC 256 (b29, 0) r26 (fun H31 =>
 ift r27
 (Qaf C p_s (some (b29, 0)) (fun r35 H36 =>
 Qaj C r35 (some (b29, 0)) (fun r37 H38 =>
 K r37 H38) H36) H31)
 (Qb3 C p_s p_cutset (fun r39 H40 =>
 QcC C r39 p_cutset (fun r41 H42 =>
 K r41 H42) H40) H31)) H30) H28) H10))
 (fun J4 => ift (((List.length p_cutset : Int) : Int) == 1)
 (ixs p_cutset 0 fun c7 =>
 J4 (decide (((c7.toNat : Int) : Int) < 128)) H)
 (J4 false H)))
theorem QfH (C p_s p_cutset K H) (h : QdR C p_s p_cutset K H) : Qaa C p_s p_cutset K H := by
 refine Ye Tryz.func110 rfl Tryz.ntmps110 [(0, sv p_s), (1, sv p_cutset)] (Zo (Za (GL.nil (GC.seq (Zo (Zm (Zv (OV.sbin (a := p_s) (b := ([] : Str)) (v := .bool (p_s == ([] : Str))) rfl rfl rfl) (Zm (GL.cut0 3 [(12, .bool ((p_s == ([] : Str)) || (p_cutset == ([] : Str)))), (0, sv p_s), (1, sv p_cutset)] ?_ ?_)))))))))
 rcases Zb (p_s == ([] : Str)) with u1 | u1
 refine Zk u1 (Zk u1 (Zt u1 ?_))
 exact GL.jump0 (fun _ _ h => h) () rfl ⟨(by rw [u1]; rfl), rfl, rfl, trivial⟩
 refine Zu u1 Ym (Zu u1 (OV.sbin (a := p_cutset) (b := ([] : Str)) (v := .bool (p_cutset == ([] : Str))) rfl rfl rfl) (Zn u1 ?_))
 exact GL.jump0 (fun _ _ h => h) () rfl ⟨(by rw [u1]; rfl), rfl, rfl, trivial⟩
 refine GL.nil (Yd h (fun u2 h => ?_) fun u2 h => ?_)
 refine Zo (Zm (Za (GL.nil ?_)))
 exact Y1 I3 ⟨p_s, rfl, h⟩
 refine GC.skip (GC.seq (Zo (Zm (Zr (Zi (.bool (((List.length p_cutset : Int) : Int) == 1)) (Zm ?_))))))
 obtain ⟨J4, h, hR5⟩ := h
 refine GL.cut (α := Bool) 4 J4 (fun b3 => [(21, .bool b3), (0, sv p_s), (1, sv p_cutset)]) ?_ ?_
 rcases h.em with ⟨u6, h⟩ | ⟨u6, h⟩
 refine Zu u6 Ym ?_
 obtain ⟨c7, ha8, hb9, h⟩ := h
 refine Zu u6 (OV.indexStr rfl rfl rfl ha8 hb9) (Zu u6 (OV.ibin (v := .bool (decide (((c7.toNat : Int) : Int) < 128))) rfl rfl rfl) (Zt u6 ?_))
 exact Yj I3 (decide (((c7.toNat : Int) : Int) < 128)) h
 refine Zk u6 (Zk u6 (Zk u6 (Zn u6 ?_)))
 exact Yj I3 false h
 intro b3 H10 h
 replace h := hR5 b3 H10 h
 refine GL.nil (Yd h (fun u11 h => ?_) fun u11 h => ?_)
 refine GC.seq ?_
 obtain ⟨Hs12, hle13, h⟩ := h
 refine GC.any (Hs := Hs12) (by kernel_rfl) hle13 (Zp 0 rfl Ym (Zp 1 rfl Ym ?_))
 obtain ⟨c14, ha15, hb16, h⟩ := h
 refine Zp 2 rfl (OV.indexStr rfl rfl rfl ha15 hb16) (Zp 4 rfl Ym ?_)
 obtain ⟨c17, ha18, hb19, h⟩ := h
 refine Zp 5 rfl (OV.indexStr rfl rfl rfl ha18 hb19) (GA.eff 3 rfl (by kernel_rfl) (Zc h QcQ ?_))
 rintro _ H22 ⟨r21, rfl, h⟩
 obtain ⟨hle20, h⟩ := h
 refine GA.back hle20 (GA.eff 6 rfl (by kernel_rfl) (Zc h Qdj ?_))
 rintro _ H25 ⟨r24, rfl, h⟩
 obtain ⟨hle23, h⟩ := h
 refine GA.back hle23 (Zp 7 rfl Ya (GA.done (by kernel_rfl) (GL.nil ?_)))
 exact Y1 I3 ⟨r24, rfl, h⟩
 refine GC.skip (GC.seq (Zo (Zm (Zc h Qdi ?_))))
 rintro _ H28 ⟨r26, r27, rfl, h⟩
 refine Zm (Yv (.agg (List.toArray r26)) rfl rfl (Yv (.bool r27) rfl rfl (GL.alloc (cs := (List.replicate 256 (.bool false : Value))) h trivial rfl rfl rfl ?_)))
 intro b29 H30 h
 obtain ⟨hl32, h133, h⟩ := h
 refine GL.storeT (p := (b29, 0)) (vs := r26) h trivial rfl rfl h133 (by rw [hl32]; rfl) ?_
 intro H31 h
 refine Za (GL.nil (Zo (Zm (GL.nil (Yd h (fun u34 h => ?_) fun u34 h => ?_)))))
 refine Zo (Zm (Zc h QcI ?_))
 rintro _ H36 ⟨r35, rfl, h⟩
 refine Zc h QcP ?_
 rintro _ H38 ⟨r37, rfl, h⟩
 refine Za (GL.nil ?_)
 exact Y1 I3 ⟨r37, rfl, h⟩
 refine GC.skip (Zo (Zm (Zm (Zc h QbV ?_))))
 rintro _ H40 ⟨r39, rfl, h⟩
 refine Zm (Zc h Qb4 ?_)
 rintro _ H42 ⟨r41, rfl, h⟩
 refine Za (GL.nil ?_)
 exact Y1 I3 ⟨r41, rfl, h⟩
def QaG (C : Ctx) (p_s : Str) (p_sep : Str) (K : Str → Str → Bool → Heap → Prop) (H : Heap) : Prop :=
 QO C p_s p_sep (fun r1 H2 =>
 ift (decide ((r1 : Int) ≥ 0))
 (slS p_s 0 r1 fun t4 =>
 slS p_s (w .i64 (r1 + (List.length p_sep : Int))) (List.length p_s : Int) fun t10 =>
 K t4 t10 true H2)
 (K p_s [] false H2)) H
theorem QbN (C p_s p_sep K H) (h : QaG C p_s p_sep K H) : QaO C p_s p_sep K H := by
 refine Ye Tryz.func111 rfl Tryz.ntmps111 [(0, sv p_s), (1, sv p_sep)] (Zo (Za (Za (Za (GL.nil (GC.seq (Zo (Zm (Zm (Zc h QbB ?_))))))))))
 rintro _ H2 ⟨r1, rfl, h⟩
 refine Za (GL.nil (Zo (Zm (Zi (.bool (decide ((r1 : Int) ≥ 0))) (GL.nil (Yd h (fun u3 h => ?_) fun u3 h => ?_))))))
 refine GC.seq (GC.draw (by kernel_rfl) (by kernel_rfl) (GQ.val trivial rfl (OV.move (v := sv p_s) rfl) (GQ.val trivial rfl (OV.move (v := .int .i64 r1) rfl) ?_)))
 obtain ⟨h5, h6, h7, t4, h8, h⟩ := h
 refine GQ.val trivial rfl (OV.sliceStr (s := p_s) h5 h6 h7 h8 rfl rfl rfl rfl rfl rfl) (GQ.val trivial rfl (OV.move (v := sv p_s) rfl) (GQ.val trivial rfl (OV.move (v := .int .i64 r1) rfl) (GQ.val trivial rfl (OV.move (v := sv p_sep) rfl) (GQ.val trivial rfl (OV.lenStr (s := p_sep) rfl rfl) (GQ.val trivial rfl (OV.ibin (v := .int .i64 (w .i64 (r1 + (List.length p_sep : Int)))) rfl rfl rfl) ?_)))))
 obtain ⟨h11, h12, h13, t10, h14, h⟩ := h
 refine GQ.val trivial rfl (OV.sliceStr (s := p_s) h11 h12 h13 h14 rfl rfl rfl rfl rfl rfl) (GQ.val trivial rfl (OV.assign (v := sv t4) rfl) (GQ.val trivial rfl (OV.assign (v := sv t10) rfl) (GQ.val trivial rfl (OV.assign (v := .bool true) rfl) (GQ.nil (GL.nil ?_)))))
 exact Y3 I3 ⟨t4, t10, true, rfl, h⟩
 refine GC.skip (Zo (Zm (Za (Za (Za (GL.nil ?_))))))
 exact Y3 I3 ⟨p_s, [], false, rfl, h⟩
def QdN (C : Ctx) (p_p : Option (Nat × Nat)) (p_n : Int) (K : Heap → Prop) (H : Heap) : Prop :=
 jn (α := Int) (fun x2 H3 =>
 Qad C p_p (decide ((p_n : Int) < 0)) (fun H6 =>
 QaL C p_p 128 (w .u64 x2) (fun H7 =>
 Qad C p_p (decide ((p_n : Int) < 0)) (fun H8 =>
 K H8) H7) H6) H3)
 (fun J1 => ift (decide ((p_n : Int) < 0))
 (J1 (bXor .i64 (-1) p_n) H)
 (J1 p_n H))
theorem QfD (C p_p p_n K H) (h : QdN C p_p p_n K H) : QcA C p_p p_n K H := by
 refine Ye Tryz.func112 rfl Tryz.ntmps112 [(0, pv p_p), (1, .int .i64 p_n)] (Zo (Zm (Zi (.bool (decide ((p_n : Int) < 0))) (Za (GL.nil ?_)))))
 obtain ⟨J1, h, hR4⟩ := h
 refine GC.join (α := Int) J1 (fun x2 => [(1, .int .i64 x2), (0, pv p_p), (4, .bool (decide ((p_n : Int) < 0)))]) ?_ ?_
 refine Zo (Zm (GL.nil (Yd h (fun u5 h => ?_) fun u5 h => ?_)))
 refine GC.region (Zm (Zv (OV.iun (v := .int .i64 (bXor .i64 (-1) p_n)) rfl rfl) (Za ?_)))
 exact Yj I3 (bXor .i64 (-1) p_n) h
 exact Yk I3 p_n h
 intro x2 H3 h
 replace h := hR4 x2 H3 h
 refine Zo (Zm (Zm (Zc h QaV ?_)))
 rintro _ H6 ⟨rfl, h⟩
 refine GL.nil (Zo (Zm (Zm (Zv (OV.convInt rfl rfl rfl) (Zc h Qcf ?_)))))
 rintro _ H7 ⟨rfl, h⟩
 refine GL.nil (GC.region (Zm (Zm (Zc h QaV ?_))))
 rintro _ H8 ⟨rfl, h⟩
 exact GL.ends (fun _ _ hf hs => QC rfl hf hs ⟨rfl, h⟩)
def QbG (C : Ctx) (p_s : Str) (p_prefix : Str) (K : Str → Bool → Heap → Prop) (H : Heap) : Prop :=
 Qab C p_s p_prefix (fun r1 r2 H3 =>
 K r1 r2 H3) H
theorem Qd2 (C p_s p_prefix K H) (h : QbG C p_s p_prefix K H) : Qa0 C p_s p_prefix K H := by
 refine Ye Tryz.func113 rfl Tryz.ntmps113 [(0, sv p_s), (1, sv p_prefix)] (Zo (Za (Za (GL.nil (Zo (Zm (Zm (Zc h Qbg ?_))))))))
 rintro _ H3 ⟨r1, r2, rfl, h⟩
 refine Yv (sv r1) rfl rfl (Yv (.bool r2) rfl rfl (Za (Za (GL.nil ?_))))
 exact Y2 I3 ⟨r1, r2, rfl, h⟩
def Qdw (C : Ctx) (p_p : Option (Nat × Nat)) (p_is : Bool) (K : Heap → Prop) (H : Heap) : Prop :=
 ift p_is
 (nck p_p fun p2 =>
 ldI H .u8 (p2.1, p2.2 + 1) fun x4 =>
 nck p_p fun p6 =>
 st (p6.1, p6.2 + 1) (.int .u8 (bXor .u8 x4 255)) (fun H8 =>
 K H8) H)
 (K H)
theorem Qfo (C p_p p_is K H) (h : Qdw C p_p p_is K H) : Qad C p_p p_is K H := by
 refine Ye Tryz.func114 rfl Tryz.ntmps114 [(0, pv p_p), (1, .bool p_is)] (Zo (Zm (GL.nil (Yd h (fun hc1 h => ?_) fun hc1 h => ?_))))
 refine GC.region (Zm ?_)
 obtain ⟨p2, hp3, h⟩ := h
 refine Zv (OV.nilCheck (q := p_p) rfl hp3) (Zf (Yl h fun x4 h => ?_))
 refine Zi (.int .u8 (bXor .u8 x4 255)) ?_
 obtain ⟨p6, hp7, h⟩ := h
 refine Zv (OV.nilCheck (q := p_p) rfl hp7) (Zf (GL.store (p := (p6.1, p6.2 + 1)) (v := .int .u8 (bXor .u8 x4 255)) h trivial rfl rfl rfl rfl ?_))
 intro H8 h
 exact GL.ends (fun _ _ hf hs => QC rfl hf hs ⟨rfl, h⟩)
 exact GC.ends (fun _ _ hf hs => QC rfl hf hs ⟨rfl, h⟩)
def Qcn (C : Ctx) (p_p : Option (Nat × Nat)) (p_first : Int) (p_u : Int) (K : Heap → Prop) (H : Heap) : Prop :=
 Qbo C p_u (fun r1 H2 =>
 nw ([.int .u8 (w .u8 (p_first + (w .u8 (w .i64 (Int.tdiv (w .i64 (r1 + 7)) 8)))))]) (fun b3 H4 =>
 Qn C p_p (Sl.of (some (b3, 0)) 1 1) (fun H5 =>
 lp (α := Int) (w .i64 (Int.tdiv (w .i64 (r1 + 7)) 8)) H5 (fun x6 J7 H8 =>
 ift (decide ((x6 : Int) > 0))
 (0 ≤ (w .i64 (8 * (w .i64 (x6 - 1)))) ∧
 nw ([.int .u8 (w .u8 (sShr .u64 p_u (w .i64 (8 * (w .i64 (x6 - 1))))))]) (fun b11 H12 =>
 Qn C p_p (Sl.of (some (b11, 0)) 1 1) (fun H13 =>
 J7 (w .i64 (x6 - 1)) H13) H12) H8)
 (K H8))) H4) H2) H
theorem Qev (C p_p p_first p_u K H) (h : Qcn C p_p p_first p_u K H) : QaL C p_p p_first p_u K H := by
 refine Ye Tryz.func115 rfl Tryz.ntmps115 [(0, pv p_p), (1, .int .u8 p_first), (2, .int .u64 p_u)] (Zo (Zm (Zc h QeH ?_)))
 rintro _ H2 ⟨r1, rfl, h⟩
 refine Zi (.int .i64 (w .i64 (r1 + 7))) (Zv (OV.quo rfl rfl (by decide)) (Za (GL.nil (Zo (Zm (Zm (Zm (Zv (OV.convInt rfl rfl rfl) (Zi (.int .u8 (w .u8 (p_first + (w .u8 (w .i64 (Int.tdiv (w .i64 (r1 + 7)) 8)))))) (GL.buildSlice (cs := [.int .u8 (w .u8 (p_first + (w .u8 (w .i64 (Int.tdiv (w .i64 (r1 + 7)) 8)))))]) h trivial rfl (vs := [(0, .int .u8 (w .u8 (p_first + (w .u8 (w .i64 (Int.tdiv (w .i64 (r1 + 7)) 8))))))]) rfl ⟨5, fun _ => by kernel_rfl⟩ ?_))))))))))
 intro b3 H4 h
 refine Zc h Qv ?_
 rintro _ H5 ⟨rfl, h⟩
 refine GL.nil (GC.block (Yp h (fun x6 => [(6, .int .i64 x6), (0, pv p_p), (2, .int .u64 p_u)]) ?_))
 intro x6 H8 J7 h
 refine GC.seq (Zo (Zm (Zi (.bool (decide ((x6 : Int) > 0))) (GL.nil (Yd h (fun hc9 h => ?_) fun hc9 h => ?_)))))
 refine GC.skip (GC.seq (GC.block (GC.region (Zm (Zm (Zm (Zi (.int .i64 (w .i64 (x6 - 1))) (Zi (.int .i64 (w .i64 (8 * (w .i64 (x6 - 1))))) ?_))))))))
 obtain ⟨hb10, h⟩ := h
 refine Zv (OV.shr rfl rfl hb10) (Zv (OV.convInt rfl rfl rfl) (GL.buildSlice (cs := [.int .u8 (w .u8 (sShr .u64 p_u (w .i64 (8 * (w .i64 (x6 - 1))))))]) h trivial rfl (vs := [(0, .int .u8 (w .u8 (sShr .u64 p_u (w .i64 (8 * (w .i64 (x6 - 1)))))))]) rfl ⟨5, fun _ => by kernel_rfl⟩ ?_))
 intro b11 H12 h
 refine Zc h Qv ?_
 rintro _ H13 ⟨rfl, h⟩
 refine GL.nil_to (fun _ _ h => h) (GC.region (Zm (Zi (.int .i64 (w .i64 (x6 - 1))) (Za ?_))))
 exact Yj I3 (w .i64 (x6 - 1)) h
 exact GC.exit_ends (fun _ _ hf hs => QC rfl hf hs ⟨rfl, h⟩)
def Qdy (C : Ctx) (p_p : Option (Nat × Nat)) (p_s : Str) (K : Heap → Prop) (H : Heap) : Prop :=
 lp (α := Int) 0 H (fun x1 J2 H3 =>
 ift (decide ((x1 : Int) < (List.length p_s : Int)))
 (jn (α := Unit) (fun x6 H7 =>
 J2 (w .i64 (x1 + 1)) H7)
 (fun J5 => ixs p_s x1 fun c9 =>
 nw ([.int .u8 (c9.toNat : Int)]) (fun b12 H13 =>
 Qn C p_p (Sl.of (some (b12, 0)) 1 1) (fun H14 =>
 ixs p_s x1 fun c15 =>
 ift (((c15.toNat : Int) : Int) == 0)
 (nw ([.int .u8 255]) (fun b19 H20 =>
 Qn C p_p (Sl.of (some (b19, 0)) 1 1) (fun H21 =>
 J5 () H21) H20) H14)
 (J5 () H14)) H13) H3))
 (nw ([.int .u8 0, .int .u8 0]) (fun b22 H23 =>
 Qn C p_p (Sl.of (some (b22, 0)) 2 2) (fun H24 =>
 K H24) H23) H3))
theorem Qfq (C p_p p_s K H) (h : Qdy C p_p p_s K H) : Qbc C p_p p_s K H := by
 refine Ye Tryz.func116 rfl Tryz.ntmps116 [(0, pv p_p), (1, sv p_s)] (GC.seq (Zo (Zm (Zr (Zm (GL.nil (GC.block (Yp h (fun x1 => [(7, .int .i64 x1), (0, pv p_p), (1, sv p_s), (6, .int .i64 (List.length p_s : Int))]) ?_))))))))
 intro x1 H3 J2 h
 refine Zo (Zi (.bool (decide ((x1 : Int) < (List.length p_s : Int)))) (GL.nil (GC.seq (Yd h (fun hc4 h => ?_) fun hc4 h => ?_))))
 refine GC.skip ?_
 obtain ⟨J5, h, hR8⟩ := h
 refine GC.join (α := Unit) J5 (fun _ => [(0, pv p_p), (1, sv p_s), (6, .int .i64 (List.length p_s : Int)), (7, .int .i64 x1)]) ?_ ?_
 refine GC.block (Zo (Zm (Za (GL.nil (Zo (Zm (Zm (Zm (Ys h fun c9 h => ?_)))))))))
 refine GL.buildSlice (cs := [.int .u8 (c9.toNat : Int)]) h trivial rfl (vs := [(0, .int .u8 (c9.toNat : Int))]) rfl ⟨5, fun _ => by kernel_rfl⟩ ?_
 intro b12 H13 h
 refine Zc h Qv ?_
 rintro _ H14 ⟨rfl, h⟩
 refine GL.nil (Zo (Zm (Zm (Ys h fun c15 h => ?_))))
 refine Zi (.bool (((c15.toNat : Int) : Int) == 0)) (GL.nil (Yd h (fun hc18 h => ?_) fun hc18 h => ?_))
 refine GC.region (Zm (GL.buildSlice (cs := [.int .u8 255]) h trivial rfl (vs := [(0, .int .u8 255)]) rfl ⟨5, fun _ => by kernel_rfl⟩ ?_))
 intro b19 H20 h
 refine Zc h Qv ?_
 rintro _ H21 ⟨rfl, h⟩
 exact Yj I3 () h
 exact Yk I3 () h
 intro x6 H7 h
 replace h := hR8 x6 H7 h
 refine GC.region (Zi (.int .i64 (w .i64 (x1 + 1))) (Zm ?_))
 exact Yj I3 (w .i64 (x1 + 1)) h
 refine GC.exit_to (fun _ _ h => h) (GC.region (Zm (GL.buildSlice (cs := [.int .u8 0, .int .u8 0]) h trivial rfl (vs := [(0, .int .u8 0), (1, .int .u8 0)]) rfl ⟨5, fun _ => by kernel_rfl⟩ ?_)))
 intro b22 H23 h
 refine Zc h Qv ?_
 rintro _ H24 ⟨rfl, h⟩
 exact GL.ends (fun _ _ hf hs => QC rfl hf hs ⟨rfl, h⟩)
def QL (C : Ctx) (p_s : Sl) (p_f : Value) (K : Int → Heap → Prop) (H : Heap) : Prop :=
 lp (α := Int) 0 H (fun x1 J2 H3 =>
 ift (decide ((x1 : Int) < (Sl.len p_s : Int)))
 (ixa p_s x1 fun p5 =>
 ldT H3 Qa.c (p5.1, p5.2 + (x1 : Int).toNat * 4) fun x10 =>
 callU Tryz.prog C p_f [.agg (Qa.c x10).toArray] H3 (fun v H13 => ∃ (r12 : Bool), v = .bool r12 ∧
 ift r12
 (K x1 H13)
 (J2 (w .i64 (x1 + 1)) H13)))
 (K (-1) H3))
theorem QaA (C p_s p_f K H) (h : QL C p_s p_f K H) : Qx C p_s p_f K H := by
 refine Ye Tryz.func126 rfl Tryz.ntmps126 [(0, slv p_s), (1, p_f)] (Zo (Za (GL.nil (GC.seq (Zo (Zm (Zq (Zm (GL.nil (GC.block (Yp h (fun x1 => [(8, .int .i64 x1), (0, slv p_s), (1, p_f), (7, .int .i64 (Sl.len p_s : Int))]) ?_)))))))))))
 intro x1 H3 J2 h
 refine Zo (Zi (.bool (decide ((x1 : Int) < (Sl.len p_s : Int)))) (GL.nil (GC.seq (Yd h (fun u4 h => ?_) fun u4 h => ?_))))
 refine GC.skip (GC.seq (GC.block (Zo (Zm (Za (GL.nil (Zo (Zm (Zm (Zm (Yx h fun p5 h => ?_)))))))))))
 obtain ⟨x10, v11, h⟩ := h
 refine Zv (OV.loadT rfl rfl rfl v11) (GL.callU (xv := p_f) (vs := [.agg (Qa.c x10).toArray]) h trivial rfl rfl rfl ?_)
 rintro _ H13 ⟨r12, rfl, h⟩
 refine GL.nil (Yd h (fun u14 h => ?_) fun u14 h => ?_)
 refine Zo (Zm (Za (GL.nil ?_)))
 exact Y1 I3 ⟨x1, rfl, h⟩
 refine GC.skip_to (fun _ _ h => h) (GC.region (Zi (.int .i64 (w .i64 (x1 + 1))) (Zm ?_)))
 exact Yj I3 (w .i64 (x1 + 1)) h
 refine GC.exit_to (fun _ _ h => h) (Zo (Za (GL.nil ?_)))
 exact Y1 I3 ⟨(-1), rfl, h⟩
def QbF (C : Ctx) (p_x : Int) (p_y : Int) (K : Int → Heap → Prop) (H : Heap) : Prop :=
 QaK C p_x (fun r1 H2 =>
 QaK C p_y (fun r3 H4 =>
 ift r1
 (ift r3
 (K 0 H4)
 (K (-1) H4))
 (ift r3
 (K 1 H4)
 (ift (decide ((p_x : Int) < p_y))
 (K (-1) H4)
 (ift (decide ((p_x : Int) > p_y))
 (K 1 H4)
 (K 0 H4))))) H2) H
theorem Qd1 (C p_x p_y K H) (h : QbF C p_x p_y K H) : QaX C p_x p_y K H := by
 refine Ye Tryz.func127 rfl Tryz.ntmps127 [(0, .int .u8 p_x), (1, .int .u8 p_y)] (Zo (Za (GL.nil (Zo (Zm (Zc h Qce ?_))))))
 rintro _ H2 ⟨r1, rfl, h⟩
 refine Za (GL.nil (Zo (Zm (Zc h Qce ?_))))
 rintro _ H4 ⟨r3, rfl, h⟩
 refine Za (GL.nil (GC.seq (Zo (Zm (GL.nil (Yd h (fun hc5 h => ?_) fun hc5 h => ?_))))))
 refine GC.seq (Zo (Zm (GL.nil (Yd h (fun hc6 h => ?_) fun hc6 h => ?_))))
 refine Zo (Za (GL.nil ?_))
 exact Y1 I3 ⟨0, rfl, h⟩
 refine GC.skip (Zo (Za (GL.nil ?_)))
 exact Y1 I3 ⟨(-1), rfl, h⟩
 refine GC.skip (GC.seq (Zo (Zm (GL.nil (Yd h (fun hc7 h => ?_) fun hc7 h => ?_)))))
 refine Zo (Za (GL.nil ?_))
 exact Y1 I3 ⟨1, rfl, h⟩
 refine GC.skip (GC.seq (Zo (Zm (Zm (Zi (.bool (decide ((p_x : Int) < p_y))) (GL.nil (Yd h (fun hc8 h => ?_) fun hc8 h => ?_)))))))
 refine Zo (Za (GL.nil ?_))
 exact Y1 I3 ⟨(-1), rfl, h⟩
 refine GC.skip (GC.seq (Zo (Zm (Zm (Zi (.bool (decide ((p_x : Int) > p_y))) (GL.nil (Yd h (fun hc9 h => ?_) fun hc9 h => ?_)))))))
 refine Zo (Za (GL.nil ?_))
 exact Y1 I3 ⟨1, rfl, h⟩
 refine GC.skip (Zo (Za (GL.nil ?_)))
 exact Y1 I3 ⟨0, rfl, h⟩
def Qdm (C : Ctx) (p_a : Str) (p_b : Str) (K : Int → Heap → Prop) (H : Heap) : Prop :=
 Qai C p_a [45] (fun r1 H2 =>
 Qai C p_b [45] (fun r3 H4 =>
 ift (r1 && r3)
 (dr H4 fun Hs7 =>
 slS p_b 1 (List.length p_b : Int) fun t9 =>
 slS p_a 1 (List.length p_a : Int) fun t15 =>
 Q2 C t9 t15 (fun r22 H23 =>
 Heap.le Hs7 H23 ∧
 K r22 H23) H4)
 (ift r1
 (K (-1) H4)
 (ift r3
 (K 1 H4)
 (Qbn C (List.length p_a : Int) (List.length p_b : Int) (fun r26 H27 =>
 QM C p_a p_b (fun r28 H29 =>
 nw ([.int .i64 r26, .int .i64 r28]) (fun b30 H31 =>
 Qca C (Sl.of (some (b30, 0)) 2 2) (fun r32 H33 =>
 K r32 H33) H31) H29) H27) H4)))) H2) H
theorem Qey (C p_a p_b K H) (h : Qdm C p_a p_b K H) : Q2 C p_a p_b K H := by
 refine Ye Tryz.func128 rfl Tryz.ntmps128 [(0, sv p_a), (1, sv p_b)] (Zo (Za (GL.nil (Zo (Zm (Zc h QbD ?_))))))
 rintro _ H2 ⟨r1, rfl, h⟩
 refine Zm (Zc h QbD ?_)
 rintro _ H4 ⟨r3, rfl, h⟩
 refine Za (Za (GL.nil (GC.seq (GC.block (Zo (Zm (Zm (GL.cut0 2 [(15, .bool (r1 && r3)), (0, sv p_a), (1, sv p_b), (5, .bool r1), (6, .bool r3)] ?_ ?_))))))))
 rcases Bool.eq_false_or_eq_true r1 with u5 | u5
 refine Zu u5 Ym (Zt u5 ?_)
 exact GL.jump0 (fun _ _ h => h) () rfl ⟨(by rw [u5]; rfl), rfl, rfl, rfl, rfl, trivial⟩
 refine Zk u5 (Zn u5 ?_)
 exact GL.jump0 (fun _ _ h => h) () rfl ⟨(by rw [u5]; rfl), rfl, rfl, rfl, rfl, trivial⟩
 refine Za (GL.nil (Yd h (fun u6 h => ?_) fun u6 h => ?_))
 refine GC.seq ?_
 obtain ⟨Hs7, hle8, h⟩ := h
 refine GC.any (Hs := Hs7) (by kernel_rfl) hle8 (Zp 0 rfl Ym ?_)
 obtain ⟨h10, h11, h12, t9, h13, h⟩ := h
 refine Zp 1 rfl (OV.sliceStr (s := p_b) h10 h11 h12 h13 rfl rfl rfl rfl rfl rfl) (Zp 2 rfl Ym ?_)
 obtain ⟨h16, h17, h18, t15, h19, h⟩ := h
 refine Zp 3 rfl (OV.sliceStr (s := p_a) h16 h17 h18 h19 rfl rfl rfl rfl rfl rfl) (GA.eff 4 rfl (by kernel_rfl) (Zc h QeI ?_))
 rintro _ H23 ⟨r22, rfl, h⟩
 obtain ⟨hle21, h⟩ := h
 refine GA.back hle21 (Zp 5 rfl Ya (GA.done (by kernel_rfl) (GL.nil ?_)))
 exact Y1 I3 ⟨r22, rfl, h⟩
 refine Zo (Zm (Za (GL.nil (Yd h (fun u24 h => ?_) fun u24 h => ?_))))
 refine Zo (Za (GL.nil ?_))
 exact Y1 I3 ⟨(-1), rfl, h⟩
 refine Zo (Zm (Za (GL.nil (Yd h (fun u25 h => ?_) fun u25 h => ?_))))
 refine Zo (Za (GL.nil ?_))
 exact Y1 I3 ⟨1, rfl, h⟩
 refine GC.skip_to (fun _ _ h => h) (Zo (Zm (Zr (Zm (Zr (Zc h QeE ?_))))))
 rintro _ H27 ⟨r26, rfl, h⟩
 refine Zm (Zm (Zc h QaE ?_))
 rintro _ H29 ⟨r28, rfl, h⟩
 refine GL.buildSlice (cs := [.int .i64 r26, .int .i64 r28]) h trivial rfl (vs := [(0, .int .i64 r26), (1, .int .i64 r28)]) rfl ⟨3, fun _ => by kernel_rfl⟩ ?_
 intro b30 H31 h
 refine Zc h QeF ?_
 rintro _ H33 ⟨r32, rfl, h⟩
 refine Za (GL.nil ?_)
 exact Y1 I3 ⟨r32, rfl, h⟩
def Qbv (C : Ctx) (p_x : Str) (p_y : Str) (K : Int → Heap → Prop) (H : Heap) : Prop :=
 Qat C p_x (fun r1 H2 =>
 Qat C p_y (fun r3 H4 =>
 ift r1
 (ift r3
 (K 0 H4)
 (K (-1) H4))
 (ift r3
 (K 1 H4)
 (ift (slt p_x p_y)
 (K (-1) H4)
 (ift (!(slt p_x p_y || (p_x == p_y)))
 (K 1 H4)
 (K 0 H4))))) H2) H
theorem QdD (C p_x p_y K H) (h : Qbv C p_x p_y K H) : QM C p_x p_y K H := by
 refine Ye Tryz.func129 rfl Tryz.ntmps129 [(0, sv p_x), (1, sv p_y)] (Zo (Za (GL.nil (Zo (Zm (Zc h QbS ?_))))))
 rintro _ H2 ⟨r1, rfl, h⟩
 refine Za (GL.nil (Zo (Zm (Zc h QbS ?_))))
 rintro _ H4 ⟨r3, rfl, h⟩
 refine Za (GL.nil (GC.seq (Zo (Zm (GL.nil (Yd h (fun u5 h => ?_) fun u5 h => ?_))))))
 refine GC.seq (Zo (Zm (GL.nil (Yd h (fun u6 h => ?_) fun u6 h => ?_))))
 refine Zo (Za (GL.nil ?_))
 exact Y1 I3 ⟨0, rfl, h⟩
 refine GC.skip (Zo (Za (GL.nil ?_)))
 exact Y1 I3 ⟨(-1), rfl, h⟩
 refine GC.skip (GC.seq (Zo (Zm (GL.nil (Yd h (fun u7 h => ?_) fun u7 h => ?_)))))
 refine Zo (Za (GL.nil ?_))
 exact Y1 I3 ⟨1, rfl, h⟩
 refine GC.skip (GC.seq (Zo (Zm (Zm (Zv (OV.sbin (a := p_x) (b := p_y) (v := .bool (slt p_x p_y)) rfl rfl rfl) (GL.nil (Yd h (fun u8 h => ?_) fun u8 h => ?_)))))))
 refine Zo (Za (GL.nil ?_))
 exact Y1 I3 ⟨(-1), rfl, h⟩
 refine GC.skip (GC.seq (Zo (Zm (Zm (Zv (OV.sbin (a := p_x) (b := p_y) (v := .bool (!(slt p_x p_y || (p_x == p_y)))) rfl rfl rfl) (GL.nil (Yd h (fun u9 h => ?_) fun u9 h => ?_)))))))
 refine Zo (Za (GL.nil ?_))
 exact Y1 I3 ⟨1, rfl, h⟩
 refine GC.skip (Zo (Za (GL.nil ?_)))
 exact Y1 I3 ⟨0, rfl, h⟩
def QeN (C : Ctx) (p_vals : Sl) (K : Int → Heap → Prop) (H : Heap) : Prop :=
 lp (α := Int) 0 H (fun x1 J2 H3 =>
 ift (decide ((x1 : Int) < (Sl.len p_vals : Int)))
 (ixa p_vals x1 fun p5 =>
 ldI H3 .i64 (p5.1, p5.2 + (x1 : Int).toNat * 1) fun x10 =>
 ift ((x10 : Int) != 0)
 (K x10 H3)
 (J2 (w .i64 (x1 + 1)) H3))
 (K 0 H3))
theorem QgI (C p_vals K H) (h : QeN C p_vals K H) : Qca C p_vals K H := by
 refine Ye Tryz.func130 rfl Tryz.ntmps130 [(0, slv p_vals)] (Zo (Za (GL.nil (Zo (Za (GL.nil (GC.seq (Zo (Zm (Zq (Zm (GL.nil (GC.block (Yp h (fun x1 => [(8, .int .i64 x1), (3, .int .i64 0), (6, slv p_vals), (7, .int .i64 (Sl.len p_vals : Int))]) ?_))))))))))))))
 intro x1 H3 J2 h
 refine Zo (Zi (.bool (decide ((x1 : Int) < (Sl.len p_vals : Int)))) (GL.nil (GC.seq (Yd h (fun u4 h => ?_) fun u4 h => ?_))))
 refine GC.skip (GC.seq (GC.block (Zo (Yx h fun p5 h => ?_))))
 refine Yl h fun x10 h => ?_
 refine Za (GL.nil (Zo (Zm (Zm (Zi (.bool ((x10 : Int) != 0)) (GL.nil (Yd h (fun u12 h => ?_) fun u12 h => ?_)))))))
 refine Zo (Zm (Za (GL.nil ?_)))
 exact Y1 I3 ⟨x10, rfl, h⟩
 refine GC.skip_to (fun _ _ h => h) (GC.region (Zi (.int .i64 (w .i64 (x1 + 1))) (Zm ?_)))
 exact Yj I3 (w .i64 (x1 + 1)) h
 refine GC.exit_to (fun _ _ h => h) (Zo (Zm (Za (GL.nil ?_))))
 exact Y1 I3 ⟨0, rfl, h⟩
def QbE (C : Ctx) (p_x : Int) (p_y : Int) (K : Int → Heap → Prop) (H : Heap) : Prop :=
 QaJ C p_x (fun r1 H2 =>
 QaJ C p_y (fun r3 H4 =>
 ift r1
 (ift r3
 (K 0 H4)
 (K (-1) H4))
 (ift r3
 (K 1 H4)
 (ift (decide ((p_x : Int) < p_y))
 (K (-1) H4)
 (ift (decide ((p_x : Int) > p_y))
 (K 1 H4)
 (K 0 H4))))) H2) H
theorem Qd0 (C p_x p_y K H) (h : QbE C p_x p_y K H) : QaW C p_x p_y K H := by
 refine Ye Tryz.func131 rfl Tryz.ntmps131 [(0, .int .i64 p_x), (1, .int .i64 p_y)] (Zo (Za (GL.nil (Zo (Zm (Zc h Qcd ?_))))))
 rintro _ H2 ⟨r1, rfl, h⟩
 refine Za (GL.nil (Zo (Zm (Zc h Qcd ?_))))
 rintro _ H4 ⟨r3, rfl, h⟩
 refine Za (GL.nil (GC.seq (Zo (Zm (GL.nil (Yd h (fun u5 h => ?_) fun u5 h => ?_))))))
 refine GC.seq (Zo (Zm (GL.nil (Yd h (fun u6 h => ?_) fun u6 h => ?_))))
 refine Zo (Za (GL.nil ?_))
 exact Y1 I3 ⟨0, rfl, h⟩
 refine GC.skip (Zo (Za (GL.nil ?_)))
 exact Y1 I3 ⟨(-1), rfl, h⟩
 refine GC.skip (GC.seq (Zo (Zm (GL.nil (Yd h (fun u7 h => ?_) fun u7 h => ?_)))))
 refine Zo (Za (GL.nil ?_))
 exact Y1 I3 ⟨1, rfl, h⟩
 refine GC.skip (GC.seq (Zo (Zm (Zm (Zi (.bool (decide ((p_x : Int) < p_y))) (GL.nil (Yd h (fun u8 h => ?_) fun u8 h => ?_)))))))
 refine Zo (Za (GL.nil ?_))
 exact Y1 I3 ⟨(-1), rfl, h⟩
 refine GC.skip (GC.seq (Zo (Zm (Zm (Zi (.bool (decide ((p_x : Int) > p_y))) (GL.nil (Yd h (fun u9 h => ?_) fun u9 h => ?_)))))))
 refine Zo (Za (GL.nil ?_))
 exact Y1 I3 ⟨1, rfl, h⟩
 refine GC.skip (Zo (Za (GL.nil ?_)))
 exact Y1 I3 ⟨0, rfl, h⟩
def QW (C : Ctx) (p_s : Str) (p_prefix : Str) (K : Str → Heap → Prop) (H : Heap) : Prop :=
 Qk C p_s p_prefix (fun r1 H2 =>
 ift r1
 (slS p_s (List.length p_prefix : Int) (List.length p_s : Int) fun t4 =>
 K t4 H2)
 (K p_s H2)) H
theorem Qa5 (C p_s p_prefix K H) (h : QW C p_s p_prefix K H) : QZ C p_s p_prefix K H := by
 refine Ye Tryz.func134 rfl Tryz.ntmps134 [(0, sv p_s), (1, sv p_prefix)] (Zo (Za (GL.nil (GC.seq (Zo (Zm (Zm (Zc h QF ?_))))))))
 rintro _ H2 ⟨r1, rfl, h⟩
 refine GL.nil (Yd h (fun u3 h => ?_) fun u3 h => ?_)
 refine Zo (Zm (Zm (Zr ?_)))
 obtain ⟨h5, h6, h7, t4, h8, h⟩ := h
 refine Zv (OV.sliceStr (s := p_s) h5 h6 h7 h8 rfl rfl rfl rfl rfl rfl) (Za (GL.nil ?_))
 exact Y1 I3 ⟨t4, rfl, h⟩
 refine GC.skip (Zo (Zm (Za (GL.nil ?_))))
 exact Y1 I3 ⟨p_s, rfl, h⟩
def Qbl (C : Ctx) (p_chars : Str) (K : List Value → Bool → Heap → Prop) (H : Heap) : Prop :=
 nw ((List.replicate 256 (.bool false : Value))) (fun b1 H2 =>
 lp (α := Int) 0 H2 (fun x3 J4 H5 =>
 ift (decide ((x3 : Int) < (List.length p_chars : Int)))
 (ixs p_chars x3 fun c7 =>
 ift (decide (((c7.toNat : Int) : Int) ≥ 128))
 (ldC H5 256 (b1, 0) fun x11 =>
 stC 256 (b1, 0) x11 (fun H14 =>
 ldC H14 256 (b1, 0) fun x17 =>
 K x17 false H14) H5)
 (ixr (b1, 0) 256 (c7.toNat : Int) <|
 st ((b1, 0).1, (b1, 0).2 + ((c7.toNat : Int) : Int).toNat * 1) (.bool true) (fun H22 =>
 J4 (w .i64 (x3 + 1)) H22) H5))
 (ldC H5 256 (b1, 0) fun x23 =>
 stC 256 (b1, 0) x23 (fun H26 =>
 ldC H26 256 (b1, 0) fun x29 =>
 K x29 true H26) H5))) H
theorem Qc2 (C p_chars K H) (h : Qbl C p_chars K H) : Qu C p_chars K H := by
 refine Ye Tryz.func137 rfl Tryz.ntmps137 [(0, sv p_chars)] (Zo (GL.alloc (cs := (List.replicate 256 (.bool false : Value))) h trivial rfl rfl rfl ?_))
 intro b1 H2 h
 refine Za (GL.nil (GC.seq (Zo (Za (GL.nil (GC.block (Yp h (fun x3 => [(4, .int .i64 x3), (0, sv p_chars), (2, pv (some (b1, 0)))]) ?_)))))))
 intro x3 H5 J4 h
 refine GC.seq (Zo (Zm (Zm (Zr (Zi (.bool (decide ((x3 : Int) < (List.length p_chars : Int)))) (GL.nil (Yd h (fun u6 h => ?_) fun u6 h => ?_)))))))
 refine GC.skip (GC.seq (GC.block (Zo (Zm (Zm (Ys h fun c7 h => ?_))))))
 refine Za (GL.nil (GC.seq (Zo (Zm (Zi (.bool (decide (((c7.toNat : Int) : Int) ≥ 128))) (GL.nil (Yd h (fun u10 h => ?_) fun u10 h => ?_)))))))
 refine Zo ?_
 obtain ⟨x11, hl13, v12, h⟩ := h
 refine Zv (OV.loadT (p := (b1, 0)) (cs := x11) rfl rfl (by rw [hl13]; rfl) v12) ?_
 obtain ⟨hl15, h116, h⟩ := h
 refine GL.storeT (p := (b1, 0)) (vs := x11) h trivial rfl rfl h116 (by rw [hl15]; rfl) ?_
 intro H14 h
 refine Za (GL.nil ?_)
 obtain ⟨x17, hl19, v18, h⟩ := h
 exact GC.ret (fun _ _ hf hs => Qhz rfl (RV.cellT (p := (b1, 0)) (cs := x17) rfl rfl (by rw [hl19]; rfl) v18) (RV.tmp rfl) hf hs ⟨x17, false, rfl, h⟩)
 refine GC.skip (GC.region (Zm ?_))
 obtain ⟨ha20, hb21, h⟩ := h
 refine Zv (OV.indexAddrA (p := (b1, 0)) rfl rfl rfl rfl ha20 hb21) (GL.store (p := ((b1, 0).1, (b1, 0).2 + ((c7.toNat : Int) : Int).toNat * 1)) (v := .bool true) h trivial rfl rfl rfl rfl ?_)
 intro H22 h
 refine GL.nil_to (fun _ _ h => h) (GC.region (Zm (Zi (.int .i64 (w .i64 (x3 + 1))) (Za ?_))))
 exact Yj I3 (w .i64 (x3 + 1)) h
 refine GC.exit_to (fun _ _ h => h) (Zo ?_)
 obtain ⟨x23, hl25, v24, h⟩ := h
 refine Zv (OV.loadT (p := (b1, 0)) (cs := x23) rfl rfl (by rw [hl25]; rfl) v24) ?_
 obtain ⟨hl27, h128, h⟩ := h
 refine GL.storeT (p := (b1, 0)) (vs := x23) h trivial rfl rfl h128 (by rw [hl27]; rfl) ?_
 intro H26 h
 refine Za (GL.nil ?_)
 obtain ⟨x29, hl31, v30, h⟩ := h
 exact GC.ret (fun _ _ hf hs => Qhz rfl (RV.cellT (p := (b1, 0)) (cs := x29) rfl rfl (by rw [hl31]; rfl) v30) (RV.tmp rfl) hf hs ⟨x29, true, rfl, h⟩)
def Qa3 (C : Ctx) (p_s : Str) (p_as : Option (Nat × Nat)) (K : Str → Heap → Prop) (H : Heap) : Prop :=
 jn (α := Str) (fun x2 H3 =>
 K x2 H3)
 (fun J1 => lp (α := Str) p_s H (fun x5 J6 H7 =>
 ift (decide (((List.length x5 : Int) : Int) > 0))
 (ixs x5 0 fun c9 =>
 QE C p_as (c9.toNat : Int) (fun r12 H13 =>
 ift (!r12)
 (J1 x5 H13)
 (slS x5 1 (List.length x5 : Int) fun t15 =>
 J6 t15 H13)) H7)
 (J1 x5 H7)))
theorem QcL (C p_s p_as K H) (h : Qa3 C p_s p_as K H) : Qaj C p_s p_as K H := by
 refine Ye Tryz.func138 rfl Tryz.ntmps138 [(0, sv p_s), (1, pv p_as)] (Zo (Za (GL.nil ?_)))
 obtain ⟨J1, h, hR4⟩ := h
 refine GC.join (α := Str) J1 (fun x2 => [(0, sv x2)]) ?_ ?_
 refine GC.block (Yp h (fun x5 => [(0, sv x5), (1, pv p_as)]) ?_)
 intro x5 H7 J6 h
 refine GC.seq (Zo (Zm (Zr (Zi (.bool (decide (((List.length x5 : Int) : Int) > 0))) (GL.nil (Yd h (fun u8 h => ?_) fun u8 h => ?_))))))
 refine GC.skip (GC.block (GC.seq (Zo (Zm (Zm (Ys h fun c9 h => ?_))))))
 refine Zc h Qav ?_
 rintro _ H13 ⟨r12, rfl, h⟩
 refine Zv (OV.not rfl) (GL.nil (Yd h (fun u14 h => ?_) fun u14 h => ?_))
 exact GC.exit_jump (fun _ _ h => h) x5 h ⟨rfl, trivial⟩
 refine GC.skip (GC.region (Zm ?_))
 obtain ⟨h16, h17, h18, t15, h19, h⟩ := h
 refine Zv (OV.sliceStr (s := x5) h16 h17 h18 h19 rfl rfl rfl rfl rfl rfl) (Za ?_)
 exact Yj I3 t15 h
 exact GC.exit_jump (fun _ _ h => h) x5 h ⟨rfl, trivial⟩
 intro x2 H3 h
 replace h := hR4 x2 H3 h
 refine Zo (Zm (Za (GL.nil ?_)))
 exact Y1 I3 ⟨x2, rfl, h⟩
def QaT (C : Ctx) (p_s : Str) (p_as : Option (Nat × Nat)) (K : Str → Heap → Prop) (H : Heap) : Prop :=
 jn (α := Str) (fun x2 H3 =>
 K x2 H3)
 (fun J1 => lp (α := Str) p_s H (fun x5 J6 H7 =>
 ift (decide (((List.length x5 : Int) : Int) > 0))
 (ixs x5 (w .i64 ((List.length x5 : Int) - 1)) fun c9 =>
 QE C p_as (c9.toNat : Int) (fun r12 H13 =>
 ift (!r12)
 (J1 x5 H13)
 (slS x5 0 (w .i64 ((List.length x5 : Int) - 1)) fun t15 =>
 J6 t15 H13)) H7)
 (J1 x5 H7)))
theorem Qcy (C p_s p_as K H) (h : QaT C p_s p_as K H) : Qaf C p_s p_as K H := by
 refine Ye Tryz.func139 rfl Tryz.ntmps139 [(0, sv p_s), (1, pv p_as)] (Zo (Za (GL.nil ?_)))
 obtain ⟨J1, h, hR4⟩ := h
 refine GC.join (α := Str) J1 (fun x2 => [(0, sv x2)]) ?_ ?_
 refine GC.block (Yp h (fun x5 => [(0, sv x5), (1, pv p_as)]) ?_)
 intro x5 H7 J6 h
 refine GC.seq (Zo (Zm (Zr (Zi (.bool (decide (((List.length x5 : Int) : Int) > 0))) (GL.nil (Yd h (fun u8 h => ?_) fun u8 h => ?_))))))
 refine GC.skip (GC.block (GC.seq (Zo (Zm (Zm (Zm (Zr (Zi (.int .i64 (w .i64 ((List.length x5 : Int) - 1))) (Ys h fun c9 h => ?_)))))))))
 refine Zc h Qav ?_
 rintro _ H13 ⟨r12, rfl, h⟩
 refine Zv (OV.not rfl) (GL.nil (Yd h (fun u14 h => ?_) fun u14 h => ?_))
 exact GC.exit_jump (fun _ _ h => h) x5 h ⟨rfl, trivial⟩
 refine GC.skip (GC.region (Zm (Zm (Zr (Zi (.int .i64 (w .i64 ((List.length x5 : Int) - 1))) ?_)))))
 obtain ⟨h16, h17, h18, t15, h19, h⟩ := h
 refine Zv (OV.sliceStr (s := x5) h16 h17 h18 h19 rfl rfl rfl rfl rfl rfl) (Za ?_)
 exact Yj I3 t15 h
 exact GC.exit_jump (fun _ _ h => h) x5 h ⟨rfl, trivial⟩
 intro x2 H3 h
 replace h := hR4 x2 H3 h
 refine Zo (Zm (Za (GL.nil ?_)))
 exact Y1 I3 ⟨x2, rfl, h⟩
def Qao (C : Ctx) (p_s : Str) (p_substr : Str) (K : Int → Heap → Prop) (H : Heap) : Prop :=
 ift ((((List.length p_substr : Int) : Int) == 0) || (p_substr == p_s))
 (K 0 H)
 (ift (((List.length p_substr : Int) : Int) == 1)
 (ixs p_substr 0 fun c4 =>
 QI C p_s (c4.toNat : Int) (fun r7 H8 =>
 K r7 H8) H)
 (ift (decide (((List.length p_substr : Int) : Int) ≥ (List.length p_s : Int)))
 (K (-1) H)
 (ldI H .i64 (1, 0) fun x10 =>
 ift ((decide (((List.length p_substr : Int) : Int) ≤ x10)) && (decide (((List.length p_s : Int) : Int) ≤ 64)))
 (False)
 (ixs p_substr 0 fun c14 =>
 ixs p_substr 1 fun c17 =>
 lp (α := Int × Int) (0, 0) H (fun x20 J21 H22 =>
 ift (decide ((x20.1 : Int) < (w .i64 ((w .i64 ((List.length p_s : Int) - (List.length p_substr : Int))) + 1))))
 (jn (α := Int) (fun x25 H26 =>
 ixs p_s (w .i64 (x25 + 1)) fun c41 =>
 jn (α := Bool) (fun b44 H54 =>
 ift b44
 (K x25 H54)
 (ldI H54 .i64 (1, 0) fun x56 =>
 jn (α := Bool) (fun b58 H64 =>
 ift b58
 (False)
 (ldI H64 .i64 (1, 0) fun x72 =>
 ift (((decide (((List.length p_substr : Int) : Int) > x72)) && (decide (((w .i64 (x20.2 + 1)) : Int) ≥ (w .i64 (4 + (sShr .i64 (w .i64 (x25 + 1)) 4)))))) && (decide (((w .i64 (x25 + 1)) : Int) < (w .i64 ((w .i64 ((List.length p_s : Int) - (List.length p_substr : Int))) + 1)))))
 (slS p_s (w .i64 (x25 + 1)) (List.length p_s : Int) fun t77 =>
 Qay C t77 p_substr (fun r83 H84 =>
 ift (decide ((r83 : Int) < 0))
 (K (-1) H84)
 (K (w .i64 ((w .i64 (x25 + 1)) + r83)) H84)) H64)
 (J21 ((w .i64 (x25 + 1)), (w .i64 (x20.2 + 1))) H64)))
 (fun J59 => ift (decide (((List.length p_substr : Int) : Int) ≤ x56))
 (Qb2 C (w .i64 (x25 + 1)) (fun r62 H63 =>
 J59 (decide (((w .i64 (x20.2 + 1)) : Int) > r62)) H63) H54)
 (J59 false H54))))
 (fun J45 => ift (((c41.toNat : Int) : Int) == (c17.toNat : Int))
 (slS p_s x25 (w .i64 (x25 + (List.length p_substr : Int))) fun t48 =>
 J45 (t48 == p_substr) H26)
 (J45 false H26)))
 (fun J24 => ixs p_s x20.1 fun c28 =>
 ift (((c28.toNat : Int) : Int) != (c14.toNat : Int))
 (slS p_s (w .i64 (x20.1 + 1)) (w .i64 ((w .i64 ((List.length p_s : Int) - (List.length p_substr : Int))) + 1)) fun t32 =>
 QI C t32 (c14.toNat : Int) (fun r38 H39 =>
 ift (decide ((r38 : Int) < 0))
 (K (-1) H39)
 (J24 (w .i64 (x20.1 + (w .i64 (r38 + 1)))) H39)) H22)
 (J24 x20.1 H22)))
 (K (-1) H22))))))
theorem Qbx (C p_s p_substr K H) (h : Qao C p_s p_substr K H) : QO C p_s p_substr K H := by
 refine Ye Tryz.func142 rfl Tryz.ntmps142 [(0, sv p_s), (1, sv p_substr)] (Zo (Za (GL.nil (Zo (Zm (Zr (Za (GL.nil (GC.seq (GC.block (Zo (Zm (Zi (.bool (((List.length p_substr : Int) : Int) == 0)) (Zm (GL.cut0 4 [(23, .bool ((((List.length p_substr : Int) : Int) == 0) || (p_substr == p_s))), (0, sv p_s), (1, sv p_substr), (5, .int .i64 (List.length p_substr : Int))] ?_ ?_)))))))))))))))
 rcases Zb (((List.length p_substr : Int) : Int) == 0) with hc1 | hc1
 refine Zk hc1 (Zk hc1 (Zk hc1 (Zt hc1 ?_)))
 exact GL.jump0 (fun _ _ h => h) () rfl ⟨(by rw [hc1]; rfl), rfl, rfl, rfl, trivial⟩
 refine Zu hc1 Ym (Zu hc1 Ym (Zu hc1 (OV.sbin (a := p_substr) (b := p_s) (v := .bool (p_substr == p_s)) rfl rfl rfl) (Zn hc1 ?_)))
 exact GL.jump0 (fun _ _ h => h) () rfl ⟨(by rw [hc1]; rfl), rfl, rfl, rfl, trivial⟩
 refine Za (GL.nil (Yd h (fun hc2 h => ?_) fun hc2 h => ?_))
 refine Zo (Za (GL.nil ?_))
 exact Y1 I3 ⟨0, rfl, h⟩
 refine Zo (Zm (Zi (.bool (((List.length p_substr : Int) : Int) == 1)) (Za (GL.nil (Yd h (fun hc3 h => ?_) fun hc3 h => ?_)))))
 refine Zo (Zm (Zm (Ys h fun c4 h => ?_)))
 refine Zc h Q5 ?_
 rintro _ H8 ⟨r7, rfl, h⟩
 refine Za (GL.nil ?_)
 exact Y1 I3 ⟨r7, rfl, h⟩
 refine Zo (Zm (Zm (Zr (Zi (.bool (decide (((List.length p_substr : Int) : Int) ≥ (List.length p_s : Int)))) (Za (GL.nil (Yd h (fun hc9 h => ?_) fun hc9 h => ?_)))))))
 refine Zo (Za (GL.nil ?_))
 exact Y1 I3 ⟨(-1), rfl, h⟩
 refine Zo (Zm (Yl h fun x10 h => ?_))
 refine Zi (.bool (decide (((List.length p_substr : Int) : Int) ≤ x10))) (Zm (GL.cut0 4 [(44, .bool ((decide (((List.length p_substr : Int) : Int) ≤ x10)) && (decide (((List.length p_s : Int) : Int) ≤ 64)))), (0, sv p_s), (1, sv p_substr), (5, .int .i64 (List.length p_substr : Int))] ?_ ?_))
 rcases Zb (decide (((List.length p_substr : Int) : Int) ≤ x10)) with hc12 | hc12
 refine Zu hc12 Ym (Zu hc12 (OV.lenStr rfl rfl) (Zu hc12 (OV.ibin (v := .bool (decide (((List.length p_s : Int) : Int) ≤ 64))) rfl rfl rfl) (Zt hc12 ?_)))
 exact GL.jump0 (fun _ _ h => h) () rfl ⟨(by rw [hc12]; rfl), rfl, rfl, rfl, trivial⟩
 refine Zk hc12 (Zk hc12 (Zk hc12 (Zn hc12 ?_)))
 exact GL.jump0 (fun _ _ h => h) () rfl ⟨(by rw [hc12]; rfl), rfl, rfl, rfl, trivial⟩
 refine Za (GL.nil (Yd h (fun hc13 h => ?_) fun hc13 h => ?_))
 refine GC.seq ?_
 exact GC.never h
 refine GC.skip_to (fun _ _ h => h) (Zo (Zm ?_))
 refine Ys h fun c14 h => ?_
 refine Za (GL.nil (Zo (Zm (Ys h fun c17 h => ?_))))
 refine Za (GL.nil (Zo (Za (GL.nil (Zo (Zm (Zr (Zm (Zi (.int .i64 (w .i64 ((List.length p_s : Int) - (List.length p_substr : Int)))) (Zi (.int .i64 (w .i64 ((w .i64 ((List.length p_s : Int) - (List.length p_substr : Int))) + 1))) (Za (GL.nil (Zo (Za (GL.nil (GC.seq (GC.block (Yp h (fun x20 => [(8, .int .i64 x20.1), (10, .int .i64 x20.2), (0, sv p_s), (1, sv p_substr), (5, .int .i64 (List.length p_substr : Int)), (6, .int .u8 (c14.toNat : Int)), (7, .int .u8 (c17.toNat : Int)), (9, .int .i64 (w .i64 ((w .i64 ((List.length p_s : Int) - (List.length p_substr : Int))) + 1)))]) ?_))))))))))))))))))
 intro x20 H22 J21 h
 refine GC.seq (Zo (Zm (Zm (Zi (.bool (decide ((x20.1 : Int) < (w .i64 ((w .i64 ((List.length p_s : Int) - (List.length p_substr : Int))) + 1))))) (GL.nil (Yd h (fun hc23 h => ?_) fun hc23 h => ?_))))))
 refine GC.skip (GC.block ?_)
 obtain ⟨J24, h, hR27⟩ := h
 refine GC.join (α := Int) J24 (fun x25 => [(8, .int .i64 x25), (0, sv p_s), (1, sv p_substr), (5, .int .i64 (List.length p_substr : Int)), (6, .int .u8 (c14.toNat : Int)), (7, .int .u8 (c17.toNat : Int)), (9, .int .i64 (w .i64 ((w .i64 ((List.length p_s : Int) - (List.length p_substr : Int))) + 1))), (10, .int .i64 x20.2)]) ?_ ?_
 refine Zo (Zm (Zm (Ys h fun c28 h => ?_)))
 refine Zm (Zi (.bool (((c28.toNat : Int) : Int) != (c14.toNat : Int))) (GL.nil (Yd h (fun hc31 h => ?_) fun hc31 h => ?_)))
 refine Zo (Zm (Zm (Zi (.int .i64 (w .i64 (x20.1 + 1))) (Zm ?_))))
 obtain ⟨h33, h34, h35, t32, h36, h⟩ := h
 refine Zv (OV.sliceStr (s := p_s) h33 h34 h35 h36 rfl rfl rfl rfl rfl rfl) (Zm (Zc h Q5 ?_))
 rintro _ H39 ⟨r38, rfl, h⟩
 refine Za (GL.nil (GC.seq (Zo (Zm (Zi (.bool (decide ((r38 : Int) < 0))) (GL.nil (Yd h (fun hc40 h => ?_) fun hc40 h => ?_)))))))
 refine Zo (Za (GL.nil ?_))
 exact Y1 I3 ⟨(-1), rfl, h⟩
 refine GC.skip (GC.region (Zm (Zm (Zi (.int .i64 (w .i64 (r38 + 1))) (Zi (.int .i64 (w .i64 (x20.1 + (w .i64 (r38 + 1))))) (Za ?_))))))
 exact Yj I3 (w .i64 (x20.1 + (w .i64 (r38 + 1)))) h
 exact Yk I3 x20.1 h
 intro x25 H26 h
 replace h := hR27 x25 H26 h
 refine GC.seq (Zo (Zm (Zm (Zi (.int .i64 (w .i64 (x25 + 1))) (Ys h fun c41 h => ?_)))))
 refine Zm (Zi (.bool (((c41.toNat : Int) : Int) == (c17.toNat : Int))) (Zm ?_))
 obtain ⟨J45, h, hR46⟩ := h
 refine GL.cut (α := Bool) 9 J45 (fun b44 => [(93, .bool b44), (0, sv p_s), (1, sv p_substr), (5, .int .i64 (List.length p_substr : Int)), (6, .int .u8 (c14.toNat : Int)), (7, .int .u8 (c17.toNat : Int)), (8, .int .i64 x25), (9, .int .i64 (w .i64 ((w .i64 ((List.length p_s : Int) - (List.length p_substr : Int))) + 1))), (10, .int .i64 x20.2)]) ?_ ?_
 rcases h.em with ⟨hc47, h⟩ | ⟨hc47, h⟩
 refine Zu hc47 Ym (Zu hc47 Ym (Zu hc47 Ym (Zu hc47 Ym (Zu hc47 (OV.ibin (v := .int .i64 (w .i64 (x25 + (List.length p_substr : Int)))) rfl rfl rfl) ?_))))
 obtain ⟨h49, h50, h51, t48, h52, h⟩ := h
 refine Zu hc47 (OV.sliceStr (s := p_s) h49 h50 h51 h52 rfl rfl rfl rfl rfl rfl) (Zu hc47 Ym (Zu hc47 (OV.sbin (a := t48) (b := p_substr) (v := .bool (t48 == p_substr)) rfl rfl rfl) (Zt hc47 ?_)))
 exact Yj I3 (t48 == p_substr) h
 refine Zk hc47 (Zk hc47 (Zk hc47 (Zk hc47 (Zk hc47 (Zk hc47 (Zk hc47 (Zk hc47 (Zn hc47 ?_))))))))
 exact Yj I3 false h
 intro b44 H54 h
 replace h := hR46 b44 H54 h
 refine GL.nil (Yd h (fun hc55 h => ?_) fun hc55 h => ?_)
 refine Zo (Zm (Za (GL.nil ?_)))
 exact Y1 I3 ⟨x25, rfl, h⟩
 refine GC.skip (Zo (Zm (Zi (.int .i64 (w .i64 (x25 + 1))) (Za (GL.nil (Zo (Zm (Zi (.int .i64 (w .i64 (x20.2 + 1))) (Za (GL.nil (Zo (Zm (Yl h fun x56 h => ?_)))))))))))))
 refine Zi (.bool (decide (((List.length p_substr : Int) : Int) ≤ x56))) (Zm ?_)
 obtain ⟨J59, h, hR60⟩ := h
 refine GL.cut (α := Bool) 5 J59 (fun b58 => [(107, .bool b58), (0, sv p_s), (1, sv p_substr), (5, .int .i64 (List.length p_substr : Int)), (6, .int .u8 (c14.toNat : Int)), (7, .int .u8 (c17.toNat : Int)), (8, .int .i64 (w .i64 (x25 + 1))), (9, .int .i64 (w .i64 ((w .i64 ((List.length p_s : Int) - (List.length p_substr : Int))) + 1))), (10, .int .i64 (w .i64 (x20.2 + 1)))]) ?_ ?_
 rcases h.em with ⟨hc61, h⟩ | ⟨hc61, h⟩
 refine Zu hc61 Ym (Zu hc61 Ym (GL.call h (Yt hc61) rfl QbT (vs := [.int .i64 (w .i64 (x25 + 1))]) rfl ?_))
 rintro _ H63 ⟨r62, rfl, h⟩
 refine Zu hc61 (OV.ibin (v := .bool (decide (((w .i64 (x20.2 + 1)) : Int) > r62))) rfl rfl rfl) (Zt hc61 ?_)
 exact Yj I3 (decide (((w .i64 (x20.2 + 1)) : Int) > r62)) h
 refine Zk hc61 (Zk hc61 (Zk hc61 (Zk hc61 (Zn hc61 ?_))))
 exact Yj I3 false h
 intro b58 H64 h
 replace h := hR60 b58 H64 h
 refine GL.nil (Yd h (fun hc65 h => ?_) fun hc65 h => ?_)
 refine GC.seq ?_
 exact GC.never h
 refine Zo (Zm (Yl h fun x72 h => ?_))
 refine Zi (.bool (decide (((List.length p_substr : Int) : Int) > x72))) (Zm (GL.cut0 6 [(127, .bool ((decide (((List.length p_substr : Int) : Int) > x72)) && (decide (((w .i64 (x20.2 + 1)) : Int) ≥ (w .i64 (4 + (sShr .i64 (w .i64 (x25 + 1)) 4))))))), (0, sv p_s), (1, sv p_substr), (5, .int .i64 (List.length p_substr : Int)), (6, .int .u8 (c14.toNat : Int)), (7, .int .u8 (c17.toNat : Int)), (8, .int .i64 (w .i64 (x25 + 1))), (9, .int .i64 (w .i64 ((w .i64 ((List.length p_s : Int) - (List.length p_substr : Int))) + 1))), (10, .int .i64 (w .i64 (x20.2 + 1)))] ?_ ?_))
 rcases Zb (decide (((List.length p_substr : Int) : Int) > x72)) with hc74 | hc74
 refine Zu hc74 Ym (Zu hc74 Ym (Zu hc74 (OV.shr rfl rfl (by decide)) (Zu hc74 (OV.ibin (v := .int .i64 (w .i64 (4 + (sShr .i64 (w .i64 (x25 + 1)) 4)))) rfl rfl rfl) (Zu hc74 (OV.ibin (v := .bool (decide (((w .i64 (x20.2 + 1)) : Int) ≥ (w .i64 (4 + (sShr .i64 (w .i64 (x25 + 1)) 4)))))) rfl rfl rfl) (Zt hc74 ?_)))))
 exact GL.jump0 (fun _ _ h => h) () rfl ⟨(by rw [hc74]; rfl), rfl, rfl, rfl, rfl, rfl, rfl, rfl, rfl, trivial⟩
 refine Zk hc74 (Zk hc74 (Zk hc74 (Zk hc74 (Zk hc74 (Zn hc74 ?_)))))
 exact GL.jump0 (fun _ _ h => h) () rfl ⟨(by rw [hc74]; rfl), rfl, rfl, rfl, rfl, rfl, rfl, rfl, rfl, trivial⟩
 refine Zm (GL.cut0 4 [(132, .bool (((decide (((List.length p_substr : Int) : Int) > x72)) && (decide (((w .i64 (x20.2 + 1)) : Int) ≥ (w .i64 (4 + (sShr .i64 (w .i64 (x25 + 1)) 4)))))) && (decide (((w .i64 (x25 + 1)) : Int) < (w .i64 ((w .i64 ((List.length p_s : Int) - (List.length p_substr : Int))) + 1)))))), (0, sv p_s), (1, sv p_substr), (5, .int .i64 (List.length p_substr : Int)), (6, .int .u8 (c14.toNat : Int)), (7, .int .u8 (c17.toNat : Int)), (8, .int .i64 (w .i64 (x25 + 1))), (9, .int .i64 (w .i64 ((w .i64 ((List.length p_s : Int) - (List.length p_substr : Int))) + 1))), (10, .int .i64 (w .i64 (x20.2 + 1)))] ?_ ?_)
 rcases Zb ((decide (((List.length p_substr : Int) : Int) > x72)) && (decide (((w .i64 (x20.2 + 1)) : Int) ≥ (w .i64 (4 + (sShr .i64 (w .i64 (x25 + 1)) 4)))))) with hc75 | hc75
 refine Zu hc75 Ym (Zu hc75 Ym (Zu hc75 (OV.ibin (v := .bool (decide (((w .i64 (x25 + 1)) : Int) < (w .i64 ((w .i64 ((List.length p_s : Int) - (List.length p_substr : Int))) + 1))))) rfl rfl rfl) (Zt hc75 ?_)))
 exact GL.jump0 (fun _ _ h => h) () rfl ⟨(by rw [hc75]; rfl), rfl, rfl, rfl, rfl, rfl, rfl, rfl, rfl, trivial⟩
 refine Zk hc75 (Zk hc75 (Zk hc75 (Zn hc75 ?_)))
 exact GL.jump0 (fun _ _ h => h) () rfl ⟨(by rw [hc75]; rfl), rfl, rfl, rfl, rfl, rfl, rfl, rfl, rfl, trivial⟩
 refine GL.nil (Yd h (fun hc76 h => ?_) fun hc76 h => ?_)
 refine Zo (Zm (Zm ?_))
 obtain ⟨h78, h79, h80, t77, h81, h⟩ := h
 refine Zv (OV.sliceStr (s := p_s) h78 h79 h80 h81 rfl rfl rfl rfl rfl rfl) (Zm (Zc h Qas ?_))
 rintro _ H84 ⟨r83, rfl, h⟩
 refine Za (GL.nil (GC.seq (Zo (Zm (Zi (.bool (decide ((r83 : Int) < 0))) (GL.nil (Yd h (fun hc85 h => ?_) fun hc85 h => ?_)))))))
 refine Zo (Za (GL.nil ?_))
 exact Y1 I3 ⟨(-1), rfl, h⟩
 refine GC.skip (Zo (Zm (Zm (Zi (.int .i64 (w .i64 ((w .i64 (x25 + 1)) + r83))) (Za (GL.nil ?_))))))
 exact Y1 I3 ⟨(w .i64 ((w .i64 (x25 + 1)) + r83)), rfl, h⟩
 exact Yk I3 ((w .i64 (x25 + 1)), (w .i64 (x20.2 + 1))) h
 refine GC.exit_to (fun _ _ h => h) (Zo (Za (GL.nil ?_)))
 exact Y1 I3 ⟨(-1), rfl, h⟩
def Q6 (C : Ctx) (p_s : Str) (p_prefix : Str) (K : Str → Bool → Heap → Prop) (H : Heap) : Prop :=
 Qk C p_s p_prefix (fun r1 H2 =>
 ift (!r1)
 (K p_s false H2)
 (slS p_s (List.length p_prefix : Int) (List.length p_s : Int) fun t4 =>
 K t4 true H2)) H
theorem Qa7 (C p_s p_prefix K H) (h : Q6 C p_s p_prefix K H) : Qab C p_s p_prefix K H := by
 refine Ye Tryz.func143 rfl Tryz.ntmps143 [(0, sv p_s), (1, sv p_prefix)] (Zo (Za (Za (GL.nil (GC.seq (Zo (Zm (Zm (Zc h QF ?_)))))))))
 rintro _ H2 ⟨r1, rfl, h⟩
 refine Zv (OV.not rfl) (GL.nil (Yd h (fun u3 h => ?_) fun u3 h => ?_))
 refine Zo (Zm (Za (Za (GL.nil ?_))))
 exact Y2 I3 ⟨p_s, false, rfl, h⟩
 refine GC.skip (Zo (Zm (Zm (Zr ?_))))
 obtain ⟨h5, h6, h7, t4, h8, h⟩ := h
 refine Zv (OV.sliceStr (s := p_s) h5 h6 h7 h8 rfl rfl rfl rfl rfl rfl) (Za (Za (GL.nil ?_)))
 exact Y2 I3 ⟨t4, true, rfl, h⟩
def Qcm (C : Ctx) (p_x : Int) (K : Bool → Heap → Prop) (H : Heap) : Prop :=
 K ((p_x : Int) != p_x) H
theorem Qeu (C p_x K H) (h : Qcm C p_x K H) : QaK C p_x K H := by
 refine Ye Tryz.func147 rfl Tryz.ntmps147 [(0, .int .u8 p_x)] (Zo (Za (GL.nil (Zo (Zm (Zm (Zi (.bool ((p_x : Int) != p_x)) (Za (GL.nil ?_)))))))))
 exact Y1 I3 ⟨((p_x : Int) != p_x), rfl, h⟩
def QbH (C : Ctx) (p_s : Str) (p_prefix : Str) (K : Bool → Heap → Prop) (H : Heap) : Prop :=
 Qk C p_s p_prefix (fun r1 H2 =>
 K r1 H2) H
theorem Qd3 (C p_s p_prefix K H) (h : QbH C p_s p_prefix K H) : Qai C p_s p_prefix K H := by
 refine Ye Tryz.func148 rfl Tryz.ntmps148 [(0, sv p_s), (1, sv p_prefix)] (Zo (Za (GL.nil (Zo (Zm (Zm (Zc h QF ?_)))))))
 rintro _ H2 ⟨r1, rfl, h⟩
 refine Za (GL.nil ?_)
 exact Y1 I3 ⟨r1, rfl, h⟩
def Qck (C : Ctx) (p_x : Int) (p_y : Int) (K : Int → Heap → Prop) (H : Heap) : Prop :=
 Qba C p_x (fun r1 H2 =>
 Qba C p_y (fun r3 H4 =>
 ift r1
 (ift r3
 (K 0 H4)
 (K (-1) H4))
 (ift r3
 (K 1 H4)
 (ift (decide ((p_x : Int) < p_y))
 (K (-1) H4)
 (ift (decide ((p_x : Int) > p_y))
 (K 1 H4)
 (K 0 H4))))) H2) H
theorem Qes (C p_x p_y K H) (h : Qck C p_x p_y K H) : Qbn C p_x p_y K H := by
 refine Ye Tryz.func149 rfl Tryz.ntmps149 [(0, .int .i64 p_x), (1, .int .i64 p_y)] (Zo (Za (GL.nil (Zo (Zm (Zc h Qdq ?_))))))
 rintro _ H2 ⟨r1, rfl, h⟩
 refine Za (GL.nil (Zo (Zm (Zc h Qdq ?_))))
 rintro _ H4 ⟨r3, rfl, h⟩
 refine Za (GL.nil (GC.seq (Zo (Zm (GL.nil (Yd h (fun u5 h => ?_) fun u5 h => ?_))))))
 refine GC.seq (Zo (Zm (GL.nil (Yd h (fun u6 h => ?_) fun u6 h => ?_))))
 refine Zo (Za (GL.nil ?_))
 exact Y1 I3 ⟨0, rfl, h⟩
 refine GC.skip (Zo (Za (GL.nil ?_)))
 exact Y1 I3 ⟨(-1), rfl, h⟩
 refine GC.skip (GC.seq (Zo (Zm (GL.nil (Yd h (fun u7 h => ?_) fun u7 h => ?_)))))
 refine Zo (Za (GL.nil ?_))
 exact Y1 I3 ⟨1, rfl, h⟩
 refine GC.skip (GC.seq (Zo (Zm (Zm (Zi (.bool (decide ((p_x : Int) < p_y))) (GL.nil (Yd h (fun u8 h => ?_) fun u8 h => ?_)))))))
 refine Zo (Za (GL.nil ?_))
 exact Y1 I3 ⟨(-1), rfl, h⟩
 refine GC.skip (GC.seq (Zo (Zm (Zm (Zi (.bool (decide ((p_x : Int) > p_y))) (GL.nil (Yd h (fun u9 h => ?_) fun u9 h => ?_)))))))
 refine Zo (Za (GL.nil ?_))
 exact Y1 I3 ⟨1, rfl, h⟩
 refine GC.skip (Zo (Za (GL.nil ?_)))
 exact Y1 I3 ⟨0, rfl, h⟩
def QbZ (C : Ctx) (p_x : Str) (K : Bool → Heap → Prop) (H : Heap) : Prop :=
 K (!(p_x == p_x)) H
theorem Qej (C p_x K H) (h : QbZ C p_x K H) : Qat C p_x K H := by
 refine Ye Tryz.func150 rfl Tryz.ntmps150 [(0, sv p_x)] (Zo (Za (GL.nil (Zo (Zm (Zm (Zv (OV.sbin (a := p_x) (b := p_x) (v := .bool (!(p_x == p_x))) rfl rfl rfl) (Za (GL.nil ?_)))))))))
 exact Y1 I3 ⟨(!(p_x == p_x)), rfl, h⟩
def Qcl (C : Ctx) (p_x : Int) (K : Bool → Heap → Prop) (H : Heap) : Prop :=
 K ((p_x : Int) != p_x) H
theorem Qet (C p_x K H) (h : Qcl C p_x K H) : QaJ C p_x K H := by
 refine Ye Tryz.func151 rfl Tryz.ntmps151 [(0, .int .i64 p_x)] (Zo (Za (GL.nil (Zo (Zm (Zm (Zi (.bool ((p_x : Int) != p_x)) (Za (GL.nil ?_)))))))))
 exact Y1 I3 ⟨((p_x : Int) != p_x), rfl, h⟩
def Q7 (C : Ctx) (p_s : Str) (p_prefix : Str) (K : Bool → Heap → Prop) (H : Heap) : Prop :=
 jn (α := Bool) (fun b1 H11 =>
 K b1 H11)
 (fun J2 => ift (decide (((List.length p_s : Int) : Int) ≥ (List.length p_prefix : Int)))
 (slS p_s 0 (List.length p_prefix : Int) fun t5 =>
 J2 (t5 == p_prefix) H)
 (J2 false H))
theorem Qa8 (C p_s p_prefix K H) (h : Q7 C p_s p_prefix K H) : Qk C p_s p_prefix K H := by
 refine Ye Tryz.func152 rfl Tryz.ntmps152 [(0, sv p_s), (1, sv p_prefix)] (Zo (Za (GL.nil (Zo (Zm (Zr (Zm (Zr (Zi (.bool (decide (((List.length p_s : Int) : Int) ≥ (List.length p_prefix : Int)))) (Zm ?_))))))))))
 obtain ⟨J2, h, hR3⟩ := h
 refine GL.cut (α := Bool) 7 J2 (fun b1 => [(17, .bool b1)]) ?_ ?_
 rcases h.em with ⟨u4, h⟩ | ⟨u4, h⟩
 refine Zu u4 Ym (Zu u4 Ym (Zu u4 (OV.lenStr rfl rfl) ?_))
 obtain ⟨h6, h7, h8, t5, h9, h⟩ := h
 refine Zu u4 (OV.sliceStr (s := p_s) h6 h7 h8 h9 rfl rfl rfl rfl rfl rfl) (Zu u4 Ym (Zu u4 (OV.sbin (a := t5) (b := p_prefix) (v := .bool (t5 == p_prefix)) rfl rfl rfl) (Zt u4 ?_)))
 exact Yj I3 (t5 == p_prefix) h
 refine Zk u4 (Zk u4 (Zk u4 (Zk u4 (Zk u4 (Zk u4 (Zn u4 ?_))))))
 exact Yj I3 false h
 intro b1 H11 h
 replace h := hR3 b1 H11 h
 refine Za (GL.nil ?_)
 exact Y1 I3 ⟨b1, rfl, h⟩
def Qax (C : Ctx) (p_as : Option (Nat × Nat)) (p_c : Int) (K : Bool → Heap → Prop) (H : Heap) : Prop :=
 nck p_as fun p1 =>
 ixr p1 256 p_c <|
 ldB H (p1.1, p1.2 + (p_c : Int).toNat * 1) fun x5 =>
 K x5 H
theorem QbK (C p_as p_c K H) (h : Qax C p_as p_c K H) : QE C p_as p_c K H := by
 refine Ye Tryz.func153 rfl Tryz.ntmps153 [(0, pv p_as), (1, .int .u8 p_c)] (Zo (Za (GL.nil (Zo (Zm (Zm ?_))))))
 obtain ⟨p1, hp2, h⟩ := h
 refine Zv (OV.nilCheck (q := p_as) rfl hp2) ?_
 obtain ⟨ha3, hb4, h⟩ := h
 refine Zv (OV.indexAddrA (p := p1) rfl rfl rfl rfl ha3 hb4) (Yl h fun x5 h => ?_)
 refine Za (GL.nil ?_)
 exact Y1 I3 ⟨x5, rfl, h⟩
def Q8 (C : Ctx) (p_s : Str) (p_c : Int) (K : Int → Heap → Prop) (H : Heap) : Prop :=
 K (idxB p_s p_c) H
theorem Qa9 (C p_s p_c K H) (h : Q8 C p_s p_c K H) : QI C p_s p_c K H := by
 refine Ye Tryz.func157 rfl Tryz.ntmps157 [(0, sv p_s), (1, .int .u8 p_c)] (Zo (Za (GL.nil (Zo (Zm (Zm (Zv (OV.ext QaQ (vs := [sv p_s, .int .u8 p_c]) (v := .int .i64 (idxB p_s p_c)) rfl (fun w => QjS _ _ w)) (Za (GL.nil ?_)))))))))
 exact Y1 I3 ⟨(idxB p_s p_c), rfl, h⟩
def Qdu (C : Ctx) (p_x : Int) (K : Bool → Heap → Prop) (H : Heap) : Prop :=
 K ((p_x : Int) != p_x) H
theorem Qfm (C p_x K H) (h : Qdu C p_x K H) : Qba C p_x K H := by
 refine Ye Tryz.func161 rfl Tryz.ntmps161 [(0, .int .i64 p_x)] (Zo (Za (GL.nil (Zo (Zm (Zm (Zi (.bool ((p_x : Int) != p_x)) (Za (GL.nil ?_)))))))))
 exact Y1 I3 ⟨((p_x : Int) != p_x), rfl, h⟩
end
end Sx
end
noncomputable section
set_option linter.unusedVariables false
namespace Go.Proofs
open Go.Shelf
def Tryz.lays171_ren : Go.Shelf.Ren := ⟨fun | 171 => 35 | 243 => 48 | 246 => 63 | 283 => 85 | 284 => 86 | 285 => 87 | 286 => 88 | 129 => 100 | 317 => 117 | 318 => 118 | 319 => 119 | 320 => 120 | 337 => 144 | 338 => 145 | n => n, fun | 3 => 3 | 9 => 9 | 2 => 2 | 4 => 4 | 171 => 118 | 0 => 0 | 53 => 119 | 37 => 79 | 5 => 5 | 173 => 122 | 212 => 151 | 51 => 135 | 20 => 20 | 213 => 152 | 46 => 41 | 232 => 181 | 233 => 182 | n => n, fun | 17 => 0 | 18 => 2 | 19 => 3 | n => n⟩
theorem Tryz.lays171 : Go.Proofs.LaysM.n171 Tryz.prog Tryz.lays171_ren := {
 mixed := by kernel_rfl
 f129 := Tryz.func100.trans (congrArg some (by kernel_rfl))
 f171 := Tryz.func35.trans (congrArg some (by kernel_rfl))
 f243 := Tryz.func48.trans (congrArg some (by kernel_rfl))
 f246 := Tryz.func63.trans (congrArg some (by kernel_rfl))
 f283 := Tryz.func85.trans (congrArg some (by kernel_rfl))
 f284 := Tryz.func86.trans (congrArg some (by kernel_rfl))
 f285 := Tryz.func87.trans (congrArg some (by kernel_rfl))
 f286 := Tryz.func88.trans (congrArg some (by kernel_rfl))
 f317 := Tryz.func117.trans (congrArg some (by kernel_rfl))
 f318 := Tryz.func118.trans (congrArg some (by kernel_rfl))
 f319 := Tryz.func119.trans (congrArg some (by kernel_rfl))
 f320 := Tryz.func120.trans (congrArg some (by kernel_rfl))
 f337 := Tryz.func144.trans (congrArg some (by kernel_rfl))
 f338 := Tryz.func145.trans (congrArg some (by kernel_rfl))
 t0 := Tryz.underlying0
 a0 := Tryz.isAgg0
 z0 := Tryz.sizeOf0
 v0 := Tryz.zeroValue0
 t2 := Tryz.underlying2
 a2 := Tryz.isAgg2
 z2 := Tryz.sizeOf2
 v2 := Tryz.zeroValue2
 t3 := Tryz.underlying3
 a3 := Tryz.isAgg3
 z3 := Tryz.sizeOf3
 v3 := Tryz.zeroValue3
 t4 := Tryz.underlying4
 a4 := Tryz.isAgg4
 z4 := Tryz.sizeOf4
 v4 := Tryz.zeroValue4
 t5 := Tryz.underlying5
 a5 := Tryz.isAgg5
 z5 := Tryz.sizeOf5
 v5 := Tryz.zeroValue5
 t9 := Tryz.underlying9
 a9 := Tryz.isAgg9
 z9 := Tryz.sizeOf9
 v9 := Tryz.zeroValue9
 t20 := Tryz.underlying20
 a20 := Tryz.isAgg20
 z20 := Tryz.sizeOf20
 v20 := Tryz.zeroValue20
 t37 := Tryz.underlying79
 a37 := Tryz.isAgg79
 z37 := Tryz.sizeOf79
 v37 := Tryz.zeroValue79
 t46 := Tryz.underlying41
 a46 := Tryz.isAgg41
 z46 := Tryz.sizeOf41
 v46 := Tryz.zeroValue41
 t51 := Tryz.underlying135
 a51 := Tryz.isAgg135
 z51 := Tryz.sizeOf135
 v51 := Tryz.zeroValue135
 t53 := Tryz.underlying119
 a53 := Tryz.isAgg119
 z53 := Tryz.sizeOf119
 v53 := Tryz.zeroValue119
 t171 := Tryz.underlying118
 a171 := Tryz.isAgg118
 z171 := Tryz.sizeOf118
 v171 := Tryz.zeroValue118
 t173 := Tryz.underlying122
 a173 := Tryz.isAgg122
 z173 := Tryz.sizeOf122
 v173 := Tryz.zeroValue122
 t212 := Tryz.underlying151
 a212 := Tryz.isAgg151
 z212 := Tryz.sizeOf151
 v212 := Tryz.zeroValue151
 t213 := Tryz.underlying152
 a213 := Tryz.isAgg152
 z213 := Tryz.sizeOf152
 t232 := Tryz.underlying181
 a232 := Tryz.isAgg181
 z232 := Tryz.sizeOf181
 v232 := Tryz.zeroValue181
 t233 := Tryz.underlying182
 a233 := Tryz.isAgg182
 z233 := Tryz.sizeOf182
 v233 := Tryz.zeroValue182
 g17 := by kernel_rfl
 g18 := by kernel_rfl
 g19 := by kernel_rfl
 i0 := by kernel_rfl
 i2 := by kernel_rfl
 i3 := by kernel_rfl
 i4 := by kernel_rfl
 i5 := by kernel_rfl
 i9 := by kernel_rfl
 i20 := by kernel_rfl
 i37 := by kernel_rfl
 i46 := by kernel_rfl
 i51 := by kernel_rfl
 i53 := by kernel_rfl
 i171 := by kernel_rfl
 i173 := by kernel_rfl
 i212 := by kernel_rfl
 i232 := by kernel_rfl
 i233 := by kernel_rfl
 m17 := by kernel_rfl
 m18 := by kernel_rfl
 m19 := by kernel_rfl }
end Go.Proofs
namespace Sx
open Go Go.Proofs Go.Stop Go.RowKit
/-- the table of powers, as it was laid -/
def PowT (C : Ctx) : Prop := ∃ t fr, C.old[(Tryz.lays171_ren.g 17)]? = some (.cells (Lib.pow10Tab.map fun z => Value.int .u64 z).toArray t fr)
/-- what writes numbers -/
structure FmtC (C : Ctx) : Prop where
 ok : ∀ {n : Int} {H : Heap} {K : Str → Heap → Prop}, -9223372036854775808 ≤ n → n ≤ 9223372036854775807 → K (Lib.itoa n) H → Qaq C n K H
theorem St.more {C : Ctx} {w : World} {H : Heap} (h : St C w H) (o : Obj) : St C { w with heap := w.heap.push o } H := by
 by_cases hc : ∃ c t fr, o = .cells c t fr
 ·obtain ⟨c, t, fr, rfl⟩ := hc
  exact (h.push (o := .cells c t fr) (m := false) (g := .row c.toList) ⟨by simp, fun h => by cases h⟩).weaken (Heap.le_put h.fresh)
 ·exact (h.push (o := o) (m := false) (g := .obj o) ⟨rfl, fun c t fr e => hc ⟨c, t, fr, e⟩⟩).weaken (Heap.le_put h.fresh)
theorem St.growL {C : Ctx} {H : Heap} : ∀ (os : List Obj) {w : World}, St C w H → St C { w with heap := w.heap ++ os.toArray } H
 | [], w, h => by
  have e : w.heap ++ ([] : List Obj).toArray = w.heap := by simp
  rw [e]; exact h
 | o :: os, w, h => by
  have e : w.heap ++ (o :: os).toArray = w.heap.push o ++ os.toArray := by apply Array.ext'; simp
  have := St.growL os (h.more o)
  rw [e]; exact this
theorem St.drewN {C : Ctx} {H : Heap} {w : World} (h : St C w H) : ∀ k, St C (w.drewN k) H
 | 0 => h
 | k + 1 => (St.drewN h k).drew
theorem QkY {C : Ctx} (hT : PowT C) : FmtC C := ⟨fun {n H K} h0 h1 k => by
 intro w hw
 obtain ⟨t, fr, hg⟩ := hT
 have hlt := (Array.getElem?_eq_some_iff.1 hg).1
 refine (Any.strconv_Itoa Tryz.lays171 n h0 h1 w ?_).mono ?_
 ·unfold Lib.TabIs World.var?
  rw [Tryz.lays171.m17]
  simp only [Option.bind_some]
  rw [hw.old _ hlt, hg]
 ·rintro e w' ⟨rfl, k', os, rfl⟩
  have h2 := St.growL os.toList (hw.drewN k')
  rw [Array.toArray_toList] at h2
  exact ⟨_, H, rfl, h2, ⟨_, rfl, k⟩⟩⟩
theorem Qie {W : World} {name : String} (hg : Tryz.prog.globalNamed name = some (Tryz.lays171_ren.g 17)) : ∀ (i : Nat) {l : List (String × DataW Unit)} {ps : List MemPlace}, DataW.LaidVars Tryz.prog W l ps → l[i]? = some (name, Lib.tabData .u64 Lib.pow10Tab) → PowT (ctxOf W)
 | _, [], ps, _, hi => by simp at hi
 | 0, (n, d) :: r, ps, ⟨g, t, cs, fuel, p, q, h1, h2, h3, h4, h5, h6⟩, hi => by
  simp only [List.getElem?_cons_zero, Option.some.injEq, Prod.mk.injEq] at hi
  obtain ⟨rfl, rfl⟩ := hi
  obtain rfl := Option.some.inj (hg.symm.trans h1)
  have hT : (Tryz.prog.globals[(Tryz.lays171_ren.g 17)]?).map (·.type) = some 151 := by kernel_rfl
  obtain rfl := Option.some.inj (hT.symm.trans h2)
  have hc := Lib.cells_of_tab Tryz.underlying151 Tryz.underlying119 (by kernel_rfl) (by kernel_rfl) h4
  unfold World.var? at h3
  rw [h1] at h3
  simp only [Option.bind_some] at h3
  cases hb : W.heap[(Tryz.lays171_ren.g 17)]? with
  | none => rw [hb] at h3; cases h3
  | some o =>
   rw [hb] at h3
   cases o <;> simp only [reduceCtorEq, Option.some.injEq] at h3
   rename_i c ty fr
   subst h3
   refine ⟨ty, fr, ?_⟩
   show W.heap[(Tryz.lays171_ren.g 17)]? = _
   rw [hb, ← hc]
 | i + 1, (n, d) :: r, ps, ⟨g, t, cs, fuel, p, q, h1, h2, h3, h4, h5, h6⟩, hi => Qie hg i h5 (by simpa using hi)
theorem QkA {W : World} {name : String} {l : List (String × DataW Unit)} (h : laidMet Tryz.prog l W) (i : Nat) (hi : l[i]? = some (name, Lib.tabData .u64 Lib.pow10Tab)) (hg : Tryz.prog.globalNamed name = some (Tryz.lays171_ren.g 17)) : PowT (ctxOf W) := by
 obtain ⟨ps, h1, _⟩ := h
 exact Qie hg i h1 hi
end Sx
end

noncomputable section
set_option linter.unusedVariables false
namespace Go.Proofs
open Go.Shelf
def Tryz.laysSrt_ren : Go.Shelf.Ren := ⟨fun | 6 => 52 | 15 => 67 | 14 => 66 | 28 => 99 | 29 => 100 | 20 => 91 | 21 => 92 | 22 => 93 | 23 => 94 | 24 => 95 | 25 => 96 | 26 => 97 | 27 => 98 | 46 => 121 | 47 => 122 | 48 => 123 | 49 => 124 | 50 => 125 | 57 => 146 | n => n, fun | 22 => 22 | 24 => 24 | 25 => 92 | 3 => 3 | 39 => 41 | 0 => 0 | 53 => 135 | 55 => 119 | 4 => 4 | 46 => 129 | 45 => 128 | 50 => 110 | 5 => 5 | 9 => 9 | 66 => 154 | 70 => 158 | 76 => 171 | 77 => 172 | n => n, fun | n => n⟩
theorem Tryz.laysSrt : Go.Proofs.SlLaysF.n6 Tryz.prog Tryz.laysSrt_ren := {
 mixed := by kernel_rfl
 f6 := ⟨Tryz.f52.name, by decide, Tryz.func52.trans (congrArg some (by kernel_rfl))⟩
 f14 := ⟨Tryz.f66.name, by decide, Tryz.func66.trans (congrArg some (by kernel_rfl))⟩
 f15 := Tryz.func67.trans (congrArg some (by kernel_rfl))
 f20 := ⟨Tryz.f91.name, by decide, Tryz.func91.trans (congrArg some (by kernel_rfl))⟩
 f21 := ⟨Tryz.f92.name, by decide, Tryz.func92.trans (congrArg some (by kernel_rfl))⟩
 f22 := ⟨Tryz.f93.name, by decide, Tryz.func93.trans (congrArg some (by kernel_rfl))⟩
 f23 := ⟨Tryz.f94.name, by decide, Tryz.func94.trans (congrArg some (by kernel_rfl))⟩
 f24 := ⟨Tryz.f95.name, by decide, Tryz.func95.trans (congrArg some (by kernel_rfl))⟩
 f25 := ⟨Tryz.f96.name, by decide, Tryz.func96.trans (congrArg some (by kernel_rfl))⟩
 f26 := ⟨Tryz.f97.name, by decide, Tryz.func97.trans (congrArg some (by kernel_rfl))⟩
 f27 := ⟨Tryz.f98.name, by decide, Tryz.func98.trans (congrArg some (by kernel_rfl))⟩
 f28 := Tryz.func99.trans (congrArg some (by kernel_rfl))
 f29 := Tryz.func100.trans (congrArg some (by kernel_rfl))
 f46 := ⟨Tryz.f121.name, by decide, Tryz.func121.trans (congrArg some (by kernel_rfl))⟩
 f47 := Tryz.func122.trans (congrArg some (by kernel_rfl))
 f48 := Tryz.func123.trans (congrArg some (by kernel_rfl))
 f49 := ⟨Tryz.f124.name, by decide, Tryz.func124.trans (congrArg some (by kernel_rfl))⟩
 f50 := ⟨Tryz.f125.name, by decide, Tryz.func125.trans (congrArg some (by kernel_rfl))⟩
 f57 := ⟨Tryz.f146.name, by decide, Tryz.func146.trans (congrArg some (by kernel_rfl))⟩
 t0 := Tryz.underlying0
 a0 := Tryz.isAgg0
 z0 := Tryz.sizeOf0
 v0 := Tryz.zeroValue0
 t3 := Tryz.underlying3
 a3 := Tryz.isAgg3
 z3 := Tryz.sizeOf3
 v3 := Tryz.zeroValue3
 t4 := Tryz.underlying4
 a4 := Tryz.isAgg4
 z4 := Tryz.sizeOf4
 v4 := Tryz.zeroValue4
 t5 := Tryz.underlying5
 a5 := Tryz.isAgg5
 z5 := Tryz.sizeOf5
 v5 := Tryz.zeroValue5
 t9 := Tryz.underlying9
 a9 := Tryz.isAgg9
 z9 := Tryz.sizeOf9
 v9 := Tryz.zeroValue9
 t22 := Tryz.underlying22
 a22 := Tryz.isAgg22
 z22 := Tryz.sizeOf22
 v22 := Tryz.zeroValue22
 a24 := Tryz.isAgg24
 z24 := Tryz.sizeOf24
 t25 := Tryz.underlying92
 a25 := Tryz.isAgg92
 z25 := Tryz.sizeOf92
 v25 := Tryz.zeroValue92
 t39 := Tryz.underlying41
 a39 := Tryz.isAgg41
 z39 := Tryz.sizeOf41
 v39 := Tryz.zeroValue41
 t45 := Tryz.underlying128
 a45 := Tryz.isAgg128
 z45 := Tryz.sizeOf128
 v45 := Tryz.zeroValue128
 t46 := Tryz.underlying129
 a46 := Tryz.isAgg129
 z46 := Tryz.sizeOf129
 v46 := Tryz.zeroValue129
 t50 := Tryz.underlying110
 a50 := Tryz.isAgg110
 z50 := Tryz.sizeOf110
 v50 := Tryz.zeroValue110
 t53 := Tryz.underlying135
 a53 := Tryz.isAgg135
 z53 := Tryz.sizeOf135
 v53 := Tryz.zeroValue135
 t55 := Tryz.underlying119
 a55 := Tryz.isAgg119
 z55 := Tryz.sizeOf119
 v55 := Tryz.zeroValue119
 t66 := Tryz.underlying154
 a66 := Tryz.isAgg154
 z66 := Tryz.sizeOf154
 v66 := Tryz.zeroValue154
 t70 := Tryz.underlying158
 a70 := Tryz.isAgg158
 z70 := Tryz.sizeOf158
 v70 := Tryz.zeroValue158
 t76 := Tryz.underlying171
 a76 := Tryz.isAgg171
 z76 := Tryz.sizeOf171
 v76 := Tryz.zeroValue171
 t77 := Tryz.underlying172
 a77 := Tryz.isAgg172
 z77 := Tryz.sizeOf172
 v77 := Tryz.zeroValue172 }
end Go.Proofs
end

noncomputable section
set_option linter.unusedVariables false
namespace Go.Proofs
open Go.Shelf
end Go.Proofs
end

