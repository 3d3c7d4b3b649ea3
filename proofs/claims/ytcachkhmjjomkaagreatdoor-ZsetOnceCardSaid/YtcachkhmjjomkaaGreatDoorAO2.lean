/-
  Texts of this family, one behind the other: Sh1.
-/
import Derived.Test.YtcachkhmjjomkaaGreatDoorAO1
import Derived.Test.YtcachkhmjjomkaaGreatDoorProg
noncomputable section
set_option linter.unusedVariables false
set_option linter.unusedSimpArgs false
set_option maxRecDepth 10000
namespace Sx
section
set_option maxRecDepth 100000
open Go Go.Proofs
structure Qb where
 Kind : Int
 N : Int
 S : Str
 L : Sl
def Qb.c (x : Qb) : List Value := [.int .u8 x.Kind, .int .i64 x.N, sv x.S, slv x.L]
def Qb.zero : Qb := ⟨0, 0, [], Sl.nil⟩
structure Qa where
 Row : Sl
 N : Int
def Qa.c (x : Qa) : List Value := [slv x.Row, .int .i64 x.N]
def Qa.zero : Qa := ⟨Sl.nil, 0⟩
structure Qc where
 l_ : Sl
 do_ : Value
def Qc.c (x : Qc) : List Value := [slv x.l_, x.do_]
def Qc.zero : Qc := ⟨Sl.nil, .nilFunc⟩
structure Qfm where
 lo_ : Int
 hi_ : Int
theorem Qfy : CallOk Tryz.prog 5 := ⟨⟨_, Tryz.func5, rfl, by decide +kernel⟩⟩
theorem Qdo : CallOk Tryz.prog 6 := ⟨⟨_, Tryz.func6, rfl, by decide +kernel⟩⟩
theorem Qfx : CallOk Tryz.prog 7 := ⟨⟨_, Tryz.func7, rfl, by decide +kernel⟩⟩
theorem Qhd : CallOk Tryz.prog 8 := ⟨⟨_, Tryz.func8, rfl, by decide +kernel⟩⟩
theorem Qf9 : CallOk Tryz.prog 13 := ⟨⟨_, Tryz.func13, rfl, by decide +kernel⟩⟩
theorem QdY : CallOk Tryz.prog 14 := ⟨⟨_, Tryz.func14, rfl, by decide +kernel⟩⟩
theorem Qb5 : CallOk Tryz.prog 15 := ⟨⟨_, Tryz.func15, rfl, by decide +kernel⟩⟩
theorem QbD : CallOk Tryz.prog 16 := ⟨⟨_, Tryz.func16, rfl, by decide +kernel⟩⟩
theorem QdZ : CallOk Tryz.prog 17 := ⟨⟨_, Tryz.func17, rfl, by decide +kernel⟩⟩
theorem Qat : CallOk Tryz.prog 18 := ⟨⟨_, Tryz.func18, rfl, by decide +kernel⟩⟩
theorem Qbi : CallOk Tryz.prog 19 := ⟨⟨_, Tryz.func19, rfl, by decide +kernel⟩⟩
theorem Qcv : CallOk Tryz.prog 20 := ⟨⟨_, Tryz.func20, rfl, by decide +kernel⟩⟩
theorem QhN : CallOk Tryz.prog 21 := ⟨⟨_, Tryz.func21, rfl, by decide +kernel⟩⟩
theorem QgB : CallOk Tryz.prog 22 := ⟨⟨_, Tryz.func22, rfl, by decide +kernel⟩⟩
theorem Qep : CallOk Tryz.prog 23 := ⟨⟨_, Tryz.func23, rfl, by decide +kernel⟩⟩
theorem Qga : CallOk Tryz.prog 24 := ⟨⟨_, Tryz.func24, rfl, by decide +kernel⟩⟩
theorem Qey : CallOk Tryz.prog 25 := ⟨⟨_, Tryz.func25, rfl, by decide +kernel⟩⟩
theorem QeB : CallOk Tryz.prog 26 := ⟨⟨_, Tryz.func26, rfl, by decide +kernel⟩⟩
theorem QhO : CallOk Tryz.prog 27 := ⟨⟨_, Tryz.func27, rfl, by decide +kernel⟩⟩
theorem QgD : CallOk Tryz.prog 31 := ⟨⟨_, Tryz.func31, rfl, by decide +kernel⟩⟩
theorem QbQ : CallOk Tryz.prog 32 := ⟨⟨_, Tryz.func32, rfl, by decide +kernel⟩⟩
theorem Qez : CallOk Tryz.prog 33 := ⟨⟨_, Tryz.func33, rfl, by decide +kernel⟩⟩
theorem Qgb : CallOk Tryz.prog 34 := ⟨⟨_, Tryz.func34, rfl, by decide +kernel⟩⟩
theorem Qd2 : CallOk Tryz.prog 35 := ⟨⟨_, Tryz.func35, rfl, by decide +kernel⟩⟩
theorem QaQ : CallOk Tryz.prog 36 := ⟨⟨_, Tryz.func36, rfl, by decide +kernel⟩⟩
theorem Qd3 : CallOk Tryz.prog 37 := ⟨⟨_, Tryz.func37, rfl, by decide +kernel⟩⟩
theorem Qdp : CallOk Tryz.prog 38 := ⟨⟨_, Tryz.func38, rfl, by decide +kernel⟩⟩
theorem Qcl : CallOk Tryz.prog 39 := ⟨⟨_, Tryz.func39, rfl, by decide +kernel⟩⟩
theorem QeA : CallOk Tryz.prog 40 := ⟨⟨_, Tryz.func40, rfl, by decide +kernel⟩⟩
theorem QaJ : CallOk Tryz.prog 41 := ⟨⟨_, Tryz.func41, rfl, by decide +kernel⟩⟩
theorem QaW : CallOk Tryz.prog 42 := ⟨⟨_, Tryz.func42, rfl, by decide +kernel⟩⟩
theorem Qe7 : CallOk Tryz.prog 43 := ⟨⟨_, Tryz.func43, rfl, by decide +kernel⟩⟩
theorem QgC : CallOk Tryz.prog 44 := ⟨⟨_, Tryz.func44, rfl, by decide +kernel⟩⟩
theorem Q0 : CallOk Tryz.prog 45 := ⟨⟨_, Tryz.func45, rfl, by decide +kernel⟩⟩
theorem QfC : CallOk Tryz.prog 46 := ⟨⟨_, Tryz.func46, rfl, by decide +kernel⟩⟩
theorem Qfa : CallOk Tryz.prog 47 := ⟨⟨_, Tryz.func47, rfl, by decide +kernel⟩⟩
theorem QaG : CallOk Tryz.prog 48 := ⟨⟨_, Tryz.func48, rfl, by decide +kernel⟩⟩
theorem QfD : CallOk Tryz.prog 49 := ⟨⟨_, Tryz.func49, rfl, by decide +kernel⟩⟩
theorem Qfb : CallOk Tryz.prog 50 := ⟨⟨_, Tryz.func50, rfl, by decide +kernel⟩⟩
theorem Qf8 : CallOk Tryz.prog 53 := ⟨⟨_, Tryz.func53, rfl, by decide +kernel⟩⟩
theorem QfA : CallOk Tryz.prog 54 := ⟨⟨_, Tryz.func54, rfl, by decide +kernel⟩⟩
theorem Q5 : CallOk Tryz.prog 55 := ⟨⟨_, Tryz.func55, rfl, by decide +kernel⟩⟩
theorem Qe9 : CallOk Tryz.prog 56 := ⟨⟨_, Tryz.func56, rfl, by decide +kernel⟩⟩
theorem Qeq : CallOk Tryz.prog 57 := ⟨⟨_, Tryz.func57, rfl, by decide +kernel⟩⟩
theorem QaX : CallOk Tryz.prog 58 := ⟨⟨_, Tryz.func58, rfl, by decide +kernel⟩⟩
theorem Qe8 : CallOk Tryz.prog 59 := ⟨⟨_, Tryz.func59, rfl, by decide +kernel⟩⟩
theorem Qfz : CallOk Tryz.prog 60 := ⟨⟨_, Tryz.func60, rfl, by decide +kernel⟩⟩
theorem Qd1 : CallOk Tryz.prog 61 := ⟨⟨_, Tryz.func61, rfl, by decide +kernel⟩⟩
theorem Qam : CallOk Tryz.prog 62 := ⟨⟨_, Tryz.func62, rfl, by decide +kernel⟩⟩
theorem QbC : CallOk Tryz.prog 63 := ⟨⟨_, Tryz.func63, rfl, by decide +kernel⟩⟩
theorem QfB : CallOk Tryz.prog 64 := ⟨⟨_, Tryz.func64, rfl, by decide +kernel⟩⟩
theorem Qa4 : CallOk Tryz.prog 65 := ⟨⟨_, Tryz.func65, rfl, by decide +kernel⟩⟩
theorem Qbu : CallOk Tryz.prog 66 := ⟨⟨_, Tryz.func66, rfl, by decide +kernel⟩⟩
theorem Qdm : CallOk Tryz.prog 70 := ⟨⟨_, Tryz.func70, rfl, by decide +kernel⟩⟩
theorem Qd0 : CallOk Tryz.prog 71 := ⟨⟨_, Tryz.func71, rfl, by decide +kernel⟩⟩
theorem Qa3 : CallOk Tryz.prog 72 := ⟨⟨_, Tryz.func72, rfl, by decide +kernel⟩⟩
theorem QdX : CallOk Tryz.prog 73 := ⟨⟨_, Tryz.func73, rfl, by decide +kernel⟩⟩
theorem Qdl : CallOk Tryz.prog 74 := ⟨⟨_, Tryz.func74, rfl, by decide +kernel⟩⟩
theorem Qc4 : CallOk Tryz.prog 75 := ⟨⟨_, Tryz.func75, rfl, by decide +kernel⟩⟩
theorem Qe6 : CallOk Tryz.prog 76 := ⟨⟨_, Tryz.func76, rfl, by decide +kernel⟩⟩
theorem Qb4 : CallOk Tryz.prog 77 := ⟨⟨_, Tryz.func77, rfl, by decide +kernel⟩⟩
theorem Qab : CallOk Tryz.prog 78 := ⟨⟨_, Tryz.func78, rfl, by decide +kernel⟩⟩
theorem Qv : CallOk Tryz.prog 79 := ⟨⟨_, Tryz.func79, rfl, by decide +kernel⟩⟩
theorem Q8 : CallOk Tryz.prog 80 := ⟨⟨_, Tryz.func80, rfl, by decide +kernel⟩⟩
theorem Qs : CallOk Tryz.prog 81 := ⟨⟨_, Tryz.func81, rfl, by decide +kernel⟩⟩
theorem Qck : CallOk Tryz.prog 85 := ⟨⟨_, Tryz.func85, rfl, by decide +kernel⟩⟩
theorem QbS : CallOk Tryz.prog 86 := ⟨⟨_, Tryz.func86, rfl, by decide +kernel⟩⟩
theorem QdW : CallOk Tryz.prog 87 := ⟨⟨_, Tryz.func87, rfl, by decide +kernel⟩⟩
theorem Qb2 : CallOk Tryz.prog 88 := ⟨⟨_, Tryz.func88, rfl, by decide +kernel⟩⟩
theorem Qcj : CallOk Tryz.prog 89 := ⟨⟨_, Tryz.func89, rfl, by decide +kernel⟩⟩
theorem Qbs : CallOk Tryz.prog 90 := ⟨⟨_, Tryz.func90, rfl, by decide +kernel⟩⟩
theorem QcO : CallOk Tryz.prog 91 := ⟨⟨_, Tryz.func91, rfl, by decide +kernel⟩⟩
theorem QcA : CallOk Tryz.prog 92 := ⟨⟨_, Tryz.func92, rfl, by decide +kernel⟩⟩
theorem QcN : CallOk Tryz.prog 93 := ⟨⟨_, Tryz.func93, rfl, by decide +kernel⟩⟩
theorem Qcz : CallOk Tryz.prog 94 := ⟨⟨_, Tryz.func94, rfl, by decide +kernel⟩⟩
theorem Qcu : CallOk Tryz.prog 95 := ⟨⟨_, Tryz.func95, rfl, by decide +kernel⟩⟩
theorem Qcf : CallOk Tryz.prog 96 := ⟨⟨_, Tryz.func96, rfl, by decide +kernel⟩⟩
theorem Qb6 : CallOk Tryz.prog 97 := ⟨⟨_, Tryz.func97, rfl, by decide +kernel⟩⟩
theorem QbP : CallOk Tryz.prog 98 := ⟨⟨_, Tryz.func98, rfl, by decide +kernel⟩⟩
theorem QbB : CallOk Tryz.prog 99 := ⟨⟨_, Tryz.func99, rfl, by decide +kernel⟩⟩
theorem Qbt : CallOk Tryz.prog 100 := ⟨⟨_, Tryz.func100, rfl, by decide +kernel⟩⟩
theorem Qaz : CallOk Tryz.prog 106 := ⟨⟨_, Tryz.func106, rfl, by decide +kernel⟩⟩
theorem QcS : CallOk Tryz.prog 107 := ⟨⟨_, Tryz.func107, rfl, by decide +kernel⟩⟩
theorem QaZ : CallOk Tryz.prog 108 := ⟨⟨_, Tryz.func108, rfl, by decide +kernel⟩⟩
theorem QaA : CallOk Tryz.prog 112 := ⟨⟨_, Tryz.func112, rfl, by decide +kernel⟩⟩
theorem Qb3 : CallOk Tryz.prog 114 := ⟨⟨_, Tryz.func114, rfl, by decide +kernel⟩⟩
theorem QaV : CallOk Tryz.prog 115 := ⟨⟨_, Tryz.func115, rfl, by decide +kernel⟩⟩
theorem QL : CallOk Tryz.prog 116 := ⟨⟨_, Tryz.func116, rfl, by decide +kernel⟩⟩
theorem QK : CallOk Tryz.prog 117 := ⟨⟨_, Tryz.func117, rfl, by decide +kernel⟩⟩
theorem Qbf : ExtOk Tryz.prog 124 Extern.BytealgIndexByte.indexByte := ⟨⟨_, Tryz.func124, by kernel_rfl, by kernel_rfl, by kernel_rfl, by kernel_rfl⟩⟩
def QaP (C : Ctx) (p_x : Sl) (p_rows : Sl) (K : Bool → Heap → Prop) (H : Heap) : Prop :=
 Spec Tryz.prog C 4 [slv p_x, slv p_rows] H (fun v H2 => ∃ (r0 : Bool), v = .bool r0 ∧ K r0 H2)
def QcI (C : Ctx) (p_l : Sl) (K : Bool → Heap → Prop) (H : Heap) : Prop :=
 Spec Tryz.prog C 5 [slv p_l] H (fun v H2 => ∃ (r0 : Bool), v = .bool r0 ∧ K r0 H2)
def QbA (C : Ctx) (K : Bool → Heap → Prop) (H : Heap) : Prop :=
 Spec Tryz.prog C 6 [] H (fun v H2 => ∃ (r0 : Bool), v = .bool r0 ∧ K r0 H2)
def QcH (C : Ctx) (p_l : Sl) (K : Sl → Heap → Prop) (H : Heap) : Prop :=
 Spec Tryz.prog C 7 [slv p_l] H (fun v H2 => ∃ (r0 : Sl), v = slv r0 ∧ K r0 H2)
def Qde (C : Ctx) (p_a : Sl) (p_b : Sl) (K : Sl → Int → Heap → Prop) (H : Heap) : Prop :=
 Spec Tryz.prog C 8 [slv p_a, slv p_b] H (fun v H2 => ∃ (r0 : Sl) (r1 : Int), v = .tuple #[slv r0, .int .i64 r1] ∧ K r0 r1 H2)
def Qa2 (C : Ctx) (p_a : Sl) (p_b : Sl) (K : Bool → Heap → Prop) (H : Heap) : Prop :=
 Spec Tryz.prog C 13 [slv p_a, slv p_b] H (fun v H2 => ∃ (r0 : Bool), v = .bool r0 ∧ K r0 H2)
theorem Qa2.gh {C : Ctx} {p_a : Sl} {p_b : Sl} {K : Bool → Heap → Prop} {H : Heap} (h : Qa2 C p_a p_b (fun r0 H2 => ∃ H0, Gh C H2 H0 ∧ K r0 H0) H) : Qa2 C p_a p_b K H :=
 Spec.gh (Spec.mono h fun _ H2 ⟨r0, hv, H0, hg, hk⟩ => ⟨H0, hg, r0, hv, hk⟩)
def Qch (C : Ctx) (p_l : Sl) (K : Sl → Heap → Prop) (H : Heap) : Prop :=
 Spec Tryz.prog C 14 [slv p_l] H (fun v H2 => ∃ (r0 : Sl), v = slv r0 ∧ K r0 H2)
def QS (C : Ctx) (p_v : Qb) (p_most : Int) (K : Int → Heap → Prop) (H : Heap) : Prop :=
 Spec Tryz.prog C 15 [.agg (Qb.c p_v).toArray, .int .i64 p_most] H (fun v H2 => ∃ (r0 : Int), v = .int .i64 r0 ∧ K r0 H2)
theorem QS.gh {C : Ctx} {p_v : Qb} {p_most : Int} {K : Int → Heap → Prop} {H : Heap} (h : QS C p_v p_most (fun r0 H2 => ∃ H0, Gh C H2 H0 ∧ K r0 H0) H) : QS C p_v p_most K H :=
 Spec.gh (Spec.mono h fun _ H2 ⟨r0, hv, H0, hg, hk⟩ => ⟨H0, hg, r0, hv, hk⟩)
def Qay (C : Ctx) (p_l : Sl) (K : Sl → Int → Heap → Prop) (H : Heap) : Prop :=
 Spec Tryz.prog C 16 [slv p_l] H (fun v H2 => ∃ (r0 : Sl) (r1 : Int), v = .tuple #[slv r0, .int .i64 r1] ∧ K r0 r1 H2)
def Qci (C : Ctx) (p_a : Sl) (p_e : Int) (p_b : Sl) (p_f : Int) (K : Bool → Heap → Prop) (H : Heap) : Prop :=
 Spec Tryz.prog C 17 [slv p_a, .int .i64 p_e, slv p_b, .int .i64 p_f] H (fun v H2 => ∃ (r0 : Bool), v = .bool r0 ∧ K r0 H2)
def QG (C : Ctx) (p_a : Sl) (p_b : Sl) (K : Int → Heap → Prop) (H : Heap) : Prop :=
 Spec Tryz.prog C 18 [slv p_a, slv p_b] H (fun v H2 => ∃ (r0 : Int), v = .int .i64 r0 ∧ K r0 H2)
def Qad (C : Ctx) (p_l : Sl) (K : Sl → Int → Heap → Prop) (H : Heap) : Prop :=
 Spec Tryz.prog C 19 [slv p_l] H (fun v H2 => ∃ (r0 : Sl) (r1 : Int), v = .tuple #[slv r0, .int .i64 r1] ∧ K r0 r1 H2)
def Qah (C : Ctx) (p_v : Qb) (K : Int → Heap → Prop) (H : Heap) : Prop :=
 Spec Tryz.prog C 20 [.agg (Qb.c p_v).toArray] H (fun v H2 => ∃ (r0 : Int), v = .int .i64 r0 ∧ K r0 H2)
theorem Qah.gh {C : Ctx} {p_v : Qb} {K : Int → Heap → Prop} {H : Heap} (h : Qah C p_v (fun r0 H2 => ∃ H0, Gh C H2 H0 ∧ K r0 H0) H) : Qah C p_v K H :=
 Spec.gh (Spec.mono h fun _ H2 ⟨r0, hv, H0, hg, hk⟩ => ⟨H0, hg, r0, hv, hk⟩)
def QeW (C : Ctx) (p_rows : Sl) (K : Sl → Int → Heap → Prop) (H : Heap) : Prop :=
 Spec Tryz.prog C 21 [slv p_rows] H (fun v H2 => ∃ (r0 : Sl) (r1 : Int), v = .tuple #[slv r0, .int .i64 r1] ∧ K r0 r1 H2)
def QdD (C : Ctx) (p_l : Sl) (K : Sl → Int → Heap → Prop) (H : Heap) : Prop :=
 Spec Tryz.prog C 22 [slv p_l] H (fun v H2 => ∃ (r0 : Sl) (r1 : Int), v = .tuple #[slv r0, .int .i64 r1] ∧ K r0 r1 H2)
def QbO (C : Ctx) (p_a : Sl) (p_b : Sl) (K : Bool → Heap → Prop) (H : Heap) : Prop :=
 Spec Tryz.prog C 23 [slv p_a, slv p_b] H (fun v H2 => ∃ (r0 : Bool), v = .bool r0 ∧ K r0 H2)
def Qc0 (C : Ctx) (p_l : Sl) (K : Sl → Heap → Prop) (H : Heap) : Prop :=
 Spec Tryz.prog C 24 [slv p_l] H (fun v H2 => ∃ (r0 : Sl), v = slv r0 ∧ K r0 H2)
def QbG (C : Ctx) (p_l : Sl) (K : Sl → Heap → Prop) (H : Heap) : Prop :=
 Spec Tryz.prog C 25 [slv p_l] H (fun v H2 => ∃ (r0 : Sl), v = slv r0 ∧ K r0 H2)
def QcM (C : Ctx) (p_parts : Sl) (K : Sl → Int → Heap → Prop) (H : Heap) : Prop :=
 Spec Tryz.prog C 26 [slv p_parts] H (fun v H2 => ∃ (r0 : Sl) (r1 : Int), v = .tuple #[slv r0, .int .i64 r1] ∧ K r0 r1 H2)
def Qgt (C : Ctx) (p_n : Int) (K : Int → Heap → Prop) (H : Heap) : Prop :=
 Spec Tryz.prog C 27 [.int .i64 p_n] H (fun v H2 => ∃ (r0 : Int), v = .int .i64 r0 ∧ K r0 H2)
def QeY (C : Ctx) (p_n : Int) (K : Int → Heap → Prop) (H : Heap) : Prop :=
 Spec Tryz.prog C 31 [.int .i64 p_n] H (fun v H2 => ∃ (r0 : Int), v = .int .i64 r0 ∧ K r0 H2)
def QaH (C : Ctx) (p_a : Sl) (p_b : Sl) (K : Bool → Heap → Prop) (H : Heap) : Prop :=
 Spec Tryz.prog C 32 [slv p_a, slv p_b] H (fun v H2 => ∃ (r0 : Bool), v = .bool r0 ∧ K r0 H2)
def QcL (C : Ctx) (p_l : Sl) (K : Bool → Heap → Prop) (H : Heap) : Prop :=
 Spec Tryz.prog C 33 [slv p_l] H (fun v H2 => ∃ (r0 : Bool), v = .bool r0 ∧ K r0 H2)
def Qc1 (C : Ctx) (p_a : Bool) (p_b : Bool) (K : Int → Heap → Prop) (H : Heap) : Prop :=
 Spec Tryz.prog C 34 [.bool p_a, .bool p_b] H (fun v H2 => ∃ (r0 : Int), v = .int .i64 r0 ∧ K r0 H2)
def QbK (C : Ctx) (p_a : Sl) (p_b : Sl) (K : Int → Heap → Prop) (H : Heap) : Prop :=
 Spec Tryz.prog C 35 [slv p_a, slv p_b] H (fun v H2 => ∃ (r0 : Int), v = .int .i64 r0 ∧ K r0 H2)
def Qj (C : Ctx) (p_s : Sl) (p_del : Value) (K : Sl → Heap → Prop) (H : Heap) : Prop :=
 Spec Tryz.prog C 36 [slv p_s, p_del] H (fun v H2 => ∃ (r0 : Sl), v = slv r0 ∧ K r0 H2)
def Qal (C : Ctx) (p_x : Qa) (K : Bool → Heap → Prop) (H : Heap) : Prop :=
 Spec Tryz.prog C 37 [.agg (Qa.c p_x).toArray] H (fun v H2 => ∃ (r0 : Bool), v = .bool r0 ∧ K r0 H2)
theorem Qal.gh {C : Ctx} {p_x : Qa} {K : Bool → Heap → Prop} {H : Heap} (h : Qal C p_x (fun r0 H2 => ∃ H0, Gh C H2 H0 ∧ K r0 H0) H) : Qal C p_x K H :=
 Spec.gh (Spec.mono h fun _ H2 ⟨r0, hv, H0, hg, hk⟩ => ⟨H0, hg, r0, hv, hk⟩)
def Qai (C : Ctx) (p_v : Qb) (p_most : Int) (K : Int → Heap → Prop) (H : Heap) : Prop :=
 Spec Tryz.prog C 38 [.agg (Qb.c p_v).toArray, .int .i64 p_most] H (fun v H2 => ∃ (r0 : Int), v = .int .i64 r0 ∧ K r0 H2)
theorem Qai.gh {C : Ctx} {p_v : Qb} {p_most : Int} {K : Int → Heap → Prop} {H : Heap} (h : Qai C p_v p_most (fun r0 H2 => ∃ H0, Gh C H2 H0 ∧ K r0 H0) H) : Qai C p_v p_most K H :=
 Spec.gh (Spec.mono h fun _ H2 ⟨r0, hv, H0, hg, hk⟩ => ⟨H0, hg, r0, hv, hk⟩)
def QJ (C : Ctx) (p_v : Qb) (K : Bool → Bool → Heap → Prop) (H : Heap) : Prop :=
 Spec Tryz.prog C 39 [.agg (Qb.c p_v).toArray] H (fun v H2 => ∃ (r0 : Bool) (r1 : Bool), v = .tuple #[.bool r0, .bool r1] ∧ K r0 r1 H2)
theorem QJ.gh {C : Ctx} {p_v : Qb} {K : Bool → Bool → Heap → Prop} {H : Heap} (h : QJ C p_v (fun r0 r1 H2 => ∃ H0, Gh C H2 H0 ∧ K r0 r1 H0) H) : QJ C p_v K H :=
 Spec.gh (Spec.mono h fun _ H2 ⟨r0, r1, hv, H0, hg, hk⟩ => ⟨H0, hg, r0, r1, hv, hk⟩)
def QbH (C : Ctx) (p_l : Sl) (K : Sl → Heap → Prop) (H : Heap) : Prop :=
 Spec Tryz.prog C 40 [slv p_l] H (fun v H2 => ∃ (r0 : Sl), v = slv r0 ∧ K r0 H2)
def Qk (C : Ctx) (p_x : Sl) (p_cmp : Value) (K : Heap → Prop) (H : Heap) : Prop :=
 Spec Tryz.prog C 41 [slv p_x, p_cmp] H (fun v H2 => v = .tuple #[] ∧ K H2)
def Qn (C : Ctx) (p_s : Sl) (p_eq : Value) (K : Sl → Heap → Prop) (H : Heap) : Prop :=
 Spec Tryz.prog C 42 [slv p_s, p_eq] H (fun v H2 => ∃ (r0 : Sl), v = slv r0 ∧ K r0 H2)
def Qdn (C : Ctx) (p_a : Sl) (p_b : Sl) (K : Bool → Heap → Prop) (H : Heap) : Prop :=
 Spec Tryz.prog C 43 [slv p_a, slv p_b] H (fun v H2 => ∃ (r0 : Bool), v = .bool r0 ∧ K r0 H2)
def QeX (C : Ctx) (p_parts : Sl) (K : Value → Heap → Prop) (H : Heap) : Prop :=
 Spec Tryz.prog C 44 [slv p_parts] H (fun v H2 => ∃ (r0 : Value), v = r0 ∧ K r0 H2)
def Qf (C : Ctx) (p_s : Sl) (p_f : Value) (K : Bool → Heap → Prop) (H : Heap) : Prop :=
 Spec Tryz.prog C 45 [slv p_s, p_f] H (fun v H2 => ∃ (r0 : Bool), v = .bool r0 ∧ K r0 H2)
def Qa9 (C : Ctx) (p_v : Qb) (K : Bool → Heap → Prop) (H : Heap) : Prop :=
 Spec Tryz.prog C 46 [.agg (Qb.c p_v).toArray] H (fun v H2 => ∃ (r0 : Bool), v = .bool r0 ∧ K r0 H2)
theorem Qa9.gh {C : Ctx} {p_v : Qb} {K : Bool → Heap → Prop} {H : Heap} (h : Qa9 C p_v (fun r0 H2 => ∃ H0, Gh C H2 H0 ∧ K r0 H0) H) : Qa9 C p_v K H :=
 Spec.gh (Spec.mono h fun _ H2 ⟨r0, hv, H0, hg, hk⟩ => ⟨H0, hg, r0, hv, hk⟩)
def QbY (C : Ctx) (p_n : Int) (K : Bool → Heap → Prop) (H : Heap) : Prop :=
 Spec Tryz.prog C 47 [.int .i64 p_n] H (fun v H2 => ∃ (r0 : Bool), v = .bool r0 ∧ K r0 H2)
def Qe (C : Ctx) (p_x : Sl) (p_cmp : Value) (K : Heap → Prop) (H : Heap) : Prop :=
 Spec Tryz.prog C 48 [slv p_x, p_cmp] H (fun v H2 => v = .tuple #[] ∧ K H2)
def QaN (C : Ctx) (p_a : Qa) (p_b : Qa) (K : Int → Heap → Prop) (H : Heap) : Prop :=
 Spec Tryz.prog C 49 [.agg (Qa.c p_a).toArray, .agg (Qa.c p_b).toArray] H (fun v H2 => ∃ (r0 : Int), v = .int .i64 r0 ∧ K r0 H2)
theorem QaN.gh {C : Ctx} {p_a : Qa} {p_b : Qa} {K : Int → Heap → Prop} {H : Heap} (h : QaN C p_a p_b (fun r0 H2 => ∃ H0, Gh C H2 H0 ∧ K r0 H0) H) : QaN C p_a p_b K H :=
 Spec.gh (Spec.mono h fun _ H2 ⟨r0, hv, H0, hg, hk⟩ => ⟨H0, hg, r0, hv, hk⟩)
def QbI (C : Ctx) (p_l : Sl) (K : Sl → Heap → Prop) (H : Heap) : Prop :=
 Spec Tryz.prog C 50 [slv p_l] H (fun v H2 => ∃ (r0 : Sl), v = slv r0 ∧ K r0 H2)
def Qaw (C : Ctx) (p_a : Qb) (p_b : Qb) (K : Bool → Heap → Prop) (H : Heap) : Prop :=
 Spec Tryz.prog C 53 [.agg (Qb.c p_a).toArray, .agg (Qb.c p_b).toArray] H (fun v H2 => ∃ (r0 : Bool), v = .bool r0 ∧ K r0 H2)
theorem Qaw.gh {C : Ctx} {p_a : Qb} {p_b : Qb} {K : Bool → Heap → Prop} {H : Heap} (h : Qaw C p_a p_b (fun r0 H2 => ∃ H0, Gh C H2 H0 ∧ K r0 H0) H) : Qaw C p_a p_b K H :=
 Spec.gh (Spec.mono h fun _ H2 ⟨r0, hv, H0, hg, hk⟩ => ⟨H0, hg, r0, hv, hk⟩)
def QaM (C : Ctx) (p_v : Qb) (K : Bool → Heap → Prop) (H : Heap) : Prop :=
 Spec Tryz.prog C 54 [.agg (Qb.c p_v).toArray] H (fun v H2 => ∃ (r0 : Bool), v = .bool r0 ∧ K r0 H2)
theorem QaM.gh {C : Ctx} {p_v : Qb} {K : Bool → Heap → Prop} {H : Heap} (h : QaM C p_v (fun r0 H2 => ∃ H0, Gh C H2 H0 ∧ K r0 H0) H) : QaM C p_v K H :=
 Spec.gh (Spec.mono h fun _ H2 ⟨r0, hv, H0, hg, hk⟩ => ⟨H0, hg, r0, hv, hk⟩)
def Qd (C : Ctx) (p_s1 : Sl) (p_s2 : Sl) (p_cmp : Value) (K : Int → Heap → Prop) (H : Heap) : Prop :=
 Spec Tryz.prog C 55 [slv p_s1, slv p_s2, p_cmp] H (fun v H2 => ∃ (r0 : Int), v = .int .i64 r0 ∧ K r0 H2)
theorem Qd.gh {C : Ctx} {p_s1 : Sl} {p_s2 : Sl} {p_cmp : Value} {K : Int → Heap → Prop} {H : Heap} (h : Qd C p_s1 p_s2 p_cmp (fun r0 H2 => ∃ H0, Gh C H2 H0 ∧ K r0 H0) H) : Qd C p_s1 p_s2 p_cmp K H :=
 Spec.gh (Spec.mono h fun _ H2 ⟨r0, hv, H0, hg, hk⟩ => ⟨H0, hg, r0, hv, hk⟩)
def QaS (C : Ctx) (p_x : Qb) (p_y : Qb) (K : Int → Heap → Prop) (H : Heap) : Prop :=
 Spec Tryz.prog C 56 [.agg (Qb.c p_x).toArray, .agg (Qb.c p_y).toArray] H (fun v H2 => ∃ (r0 : Int), v = .int .i64 r0 ∧ K r0 H2)
theorem QaS.gh {C : Ctx} {p_x : Qb} {p_y : Qb} {K : Int → Heap → Prop} {H : Heap} (h : QaS C p_x p_y (fun r0 H2 => ∃ H0, Gh C H2 H0 ∧ K r0 H0) H) : QaS C p_x p_y K H :=
 Spec.gh (Spec.mono h fun _ H2 ⟨r0, hv, H0, hg, hk⟩ => ⟨H0, hg, r0, hv, hk⟩)
def QM (C : Ctx) (p_v : Qb) (p_w : Qb) (K : Int → Heap → Prop) (H : Heap) : Prop :=
 Spec Tryz.prog C 57 [.agg (Qb.c p_v).toArray, .agg (Qb.c p_w).toArray] H (fun v H2 => ∃ (r0 : Int), v = .int .i64 r0 ∧ K r0 H2)
theorem QM.gh {C : Ctx} {p_v : Qb} {p_w : Qb} {K : Int → Heap → Prop} {H : Heap} (h : QM C p_v p_w (fun r0 H2 => ∃ H0, Gh C H2 H0 ∧ K r0 H0) H) : QM C p_v p_w K H :=
 Spec.gh (Spec.mono h fun _ H2 ⟨r0, hv, H0, hg, hk⟩ => ⟨H0, hg, r0, hv, hk⟩)
def QD (C : Ctx) (p_s : Sl) (p_f : Value) (K : Int → Heap → Prop) (H : Heap) : Prop :=
 Spec Tryz.prog C 58 [slv p_s, p_f] H (fun v H2 => ∃ (r0 : Int), v = .int .i64 r0 ∧ K r0 H2)
def Qct (C : Ctx) (p_s : Str) (K : Int → Bool → Heap → Prop) (H : Heap) : Prop :=
 Spec Tryz.prog C 59 [sv p_s] H (fun v H2 => ∃ (r0 : Int) (r1 : Bool), v = .tuple #[.int .i64 r0, .bool r1] ∧ K r0 r1 H2)
def QcJ (C : Ctx) (p_s : Str) (p_sep : Str) (K : Str → Str → Bool → Heap → Prop) (H : Heap) : Prop :=
 Spec Tryz.prog C 60 [sv p_s, sv p_sep] H (fun v H2 => ∃ (r0 : Str) (r1 : Str) (r2 : Bool), v = .tuple #[sv r0, sv r1, .bool r2] ∧ K r0 r1 r2 H2)
def Qbn (C : Ctx) (p_s : Str) (K : Bool → Heap → Prop) (H : Heap) : Prop :=
 Spec Tryz.prog C 61 [sv p_s] H (fun v H2 => ∃ (r0 : Bool), v = .bool r0 ∧ K r0 H2)
def Qy (C : Ctx) (p_s : Sl) (K : Sl → Heap → Prop) (H : Heap) : Prop :=
 Spec Tryz.prog C 62 [slv p_s] H (fun v H2 => ∃ (r0 : Sl), v = slv r0 ∧ K r0 H2)
def Q4 (C : Ctx) (p_data : Sl) (p_n : Int) (p_cmp : Value) (K : Heap → Prop) (H : Heap) : Prop :=
 Spec Tryz.prog C 63 [slv p_data, .int .i64 p_n, p_cmp] H (fun v H2 => v = .tuple #[] ∧ K H2)
def Qf5 (C : Ctx) (p_yield : Value) (v0 : Nat × Nat) (K : Heap → Prop) (H : Heap) : Prop :=
 Spec Tryz.prog C 64 [p_yield, pv (some v0)] H (fun v H2 => v = .tuple #[] ∧ K H2)
def QI (C : Ctx) (p_s : Sl) (p_f : Value) (K : Int → Heap → Prop) (H : Heap) : Prop :=
 Spec Tryz.prog C 65 [slv p_s, p_f] H (fun v H2 => ∃ (r0 : Int), v = .int .i64 r0 ∧ K r0 H2)
def QU (C : Ctx) (p_data : Sl) (p_n : Int) (p_cmp : Value) (K : Heap → Prop) (H : Heap) : Prop :=
 Spec Tryz.prog C 66 [slv p_data, .int .i64 p_n, p_cmp] H (fun v H2 => v = .tuple #[] ∧ K H2)
def Qbm (C : Ctx) (p_x : Int) (p_y : Int) (K : Int → Heap → Prop) (H : Heap) : Prop :=
 Spec Tryz.prog C 70 [.int .u8 p_x, .int .u8 p_y] H (fun v H2 => ∃ (r0 : Int), v = .int .i64 r0 ∧ K r0 H2)
def Qax (C : Ctx) (p_a : Str) (p_b : Str) (K : Int → Heap → Prop) (H : Heap) : Prop :=
 Spec Tryz.prog C 71 [sv p_a, sv p_b] H (fun v H2 => ∃ (r0 : Int), v = .int .i64 r0 ∧ K r0 H2)
theorem Qax.gh {C : Ctx} {p_a : Str} {p_b : Str} {K : Int → Heap → Prop} {H : Heap} (h : Qax C p_a p_b (fun r0 H2 => ∃ H0, Gh C H2 H0 ∧ K r0 H0) H) : Qax C p_a p_b K H :=
 Spec.gh (Spec.mono h fun _ H2 ⟨r0, hv, H0, hg, hk⟩ => ⟨H0, hg, r0, hv, hk⟩)
def Qae (C : Ctx) (p_x : Str) (p_y : Str) (K : Int → Heap → Prop) (H : Heap) : Prop :=
 Spec Tryz.prog C 72 [sv p_x, sv p_y] H (fun v H2 => ∃ (r0 : Int), v = .int .i64 r0 ∧ K r0 H2)
def Qcg (C : Ctx) (p_vals : Sl) (K : Int → Heap → Prop) (H : Heap) : Prop :=
 Spec Tryz.prog C 73 [slv p_vals] H (fun v H2 => ∃ (r0 : Int), v = .int .i64 r0 ∧ K r0 H2)
def Qbl (C : Ctx) (p_x : Int) (p_y : Int) (K : Int → Heap → Prop) (H : Heap) : Prop :=
 Spec Tryz.prog C 74 [.int .i64 p_x, .int .i64 p_y] H (fun v H2 => ∃ (r0 : Int), v = .int .i64 r0 ∧ K r0 H2)
def QX (C : Ctx) (p_s : Str) (p_prefix : Str) (K : Str → Heap → Prop) (H : Heap) : Prop :=
 Spec Tryz.prog C 75 [sv p_s, sv p_prefix] H (fun v H2 => ∃ (r0 : Str), v = sv r0 ∧ K r0 H2)
theorem QX.gh {C : Ctx} {p_s : Str} {p_prefix : Str} {K : Str → Heap → Prop} {H : Heap} (h : QX C p_s p_prefix (fun r0 H2 => ∃ H0, Gh C H2 H0 ∧ K r0 H0) H) : QX C p_s p_prefix K H :=
 Spec.gh (Spec.mono h fun _ H2 ⟨r0, hv, H0, hg, hk⟩ => ⟨H0, hg, r0, hv, hk⟩)
def QaF (C : Ctx) (p_s : Str) (p_cutset : Str) (K : Str → Heap → Prop) (H : Heap) : Prop :=
 Spec Tryz.prog C 76 [sv p_s, sv p_cutset] H (fun v H2 => ∃ (r0 : Str), v = sv r0 ∧ K r0 H2)
theorem QaF.gh {C : Ctx} {p_s : Str} {p_cutset : Str} {K : Str → Heap → Prop} {H : Heap} (h : QaF C p_s p_cutset (fun r0 H2 => ∃ H0, Gh C H2 H0 ∧ K r0 H0) H) : QaF C p_s p_cutset K H :=
 Spec.gh (Spec.mono h fun _ H2 ⟨r0, hv, H0, hg, hk⟩ => ⟨H0, hg, r0, hv, hk⟩)
def Qba (C : Ctx) (p_s : Str) (p_sep : Str) (K : Str → Str → Bool → Heap → Prop) (H : Heap) : Prop :=
 Spec Tryz.prog C 77 [sv p_s, sv p_sep] H (fun v H2 => ∃ (r0 : Str) (r1 : Str) (r2 : Bool), v = .tuple #[sv r0, sv r1, .bool r2] ∧ K r0 r1 r2 H2)
def Qp (C : Ctx) (p_data : Sl) (p_a : Int) (p_b : Int) (p_cmp : Value) (K : Heap → Prop) (H : Heap) : Prop :=
 Spec Tryz.prog C 78 [slv p_data, .int .i64 p_a, .int .i64 p_b, p_cmp] H (fun v H2 => v = .tuple #[] ∧ K H2)
def Qh (C : Ctx) (p_data : Sl) (p_a : Int) (p_m : Int) (p_b : Int) (p_cmp : Value) (K : Heap → Prop) (H : Heap) : Prop :=
 Spec Tryz.prog C 79 [slv p_data, .int .i64 p_a, .int .i64 p_m, .int .i64 p_b, p_cmp] H (fun v H2 => v = .tuple #[] ∧ K H2)
def Qo (C : Ctx) (p_data : Sl) (p_a : Int) (p_b : Int) (p_cmp : Value) (K : Heap → Prop) (H : Heap) : Prop :=
 Spec Tryz.prog C 80 [slv p_data, .int .i64 p_a, .int .i64 p_b, p_cmp] H (fun v H2 => v = .tuple #[] ∧ K H2)
def Qg (C : Ctx) (p_data : Sl) (p_a : Int) (p_m : Int) (p_b : Int) (p_cmp : Value) (K : Heap → Prop) (H : Heap) : Prop :=
 Spec Tryz.prog C 81 [slv p_data, .int .i64 p_a, .int .i64 p_m, .int .i64 p_b, p_cmp] H (fun v H2 => v = .tuple #[] ∧ K H2)
def Qa8 (C : Ctx) (p_x : Int) (K : Bool → Heap → Prop) (H : Heap) : Prop :=
 Spec Tryz.prog C 85 [.int .u8 p_x] H (fun v H2 => ∃ (r0 : Bool), v = .bool r0 ∧ K r0 H2)
def QaK (C : Ctx) (p_s : Str) (p_prefix : Str) (K : Bool → Heap → Prop) (H : Heap) : Prop :=
 Spec Tryz.prog C 86 [sv p_s, sv p_prefix] H (fun v H2 => ∃ (r0 : Bool), v = .bool r0 ∧ K r0 H2)
def QbF (C : Ctx) (p_x : Int) (p_y : Int) (K : Int → Heap → Prop) (H : Heap) : Prop :=
 Spec Tryz.prog C 87 [.int .i64 p_x, .int .i64 p_y] H (fun v H2 => ∃ (r0 : Int), v = .int .i64 r0 ∧ K r0 H2)
def QaY (C : Ctx) (p_x : Str) (K : Bool → Heap → Prop) (H : Heap) : Prop :=
 Spec Tryz.prog C 88 [sv p_x] H (fun v H2 => ∃ (r0 : Bool), v = .bool r0 ∧ K r0 H2)
def Qa7 (C : Ctx) (p_x : Int) (K : Bool → Heap → Prop) (H : Heap) : Prop :=
 Spec Tryz.prog C 89 [.int .i64 p_x] H (fun v H2 => ∃ (r0 : Bool), v = .bool r0 ∧ K r0 H2)
def Qav (C : Ctx) (p_s : Str) (p_prefix : Str) (K : Str → Heap → Prop) (H : Heap) : Prop :=
 Spec Tryz.prog C 90 [sv p_s, sv p_prefix] H (fun v H2 => ∃ (r0 : Str), v = sv r0 ∧ K r0 H2)
def QcX (C : Ctx) (p_s : Str) (p_c : Int) (K : Str → Heap → Prop) (H : Heap) : Prop :=
 Spec Tryz.prog C 91 [sv p_s, .int .u8 p_c] H (fun v H2 => ∃ (r0 : Str), v = sv r0 ∧ K r0 H2)
def QcK (C : Ctx) (p_s : Str) (p_c : Int) (K : Str → Heap → Prop) (H : Heap) : Prop :=
 Spec Tryz.prog C 92 [sv p_s, .int .u8 p_c] H (fun v H2 => ∃ (r0 : Str), v = sv r0 ∧ K r0 H2)
def Qz (C : Ctx) (p_chars : Str) (K : List Value → Bool → Heap → Prop) (H : Heap) : Prop :=
 Spec Tryz.prog C 93 [sv p_chars] H (fun v H2 => ∃ (r0 : List Value) (r1 : Bool), v = .tuple #[.agg (List.toArray r0), .bool r1] ∧ K r0 r1 H2)
theorem Qz.gh {C : Ctx} {p_chars : Str} {K : List Value → Bool → Heap → Prop} {H : Heap} (h : Qz C p_chars (fun r0 r1 H2 => ∃ H0, Gh C H2 H0 ∧ K r0 r1 H0) H) : Qz C p_chars K H :=
 Spec.gh (Spec.mono h fun _ H2 ⟨r0, r1, hv, H0, hg, hk⟩ => ⟨H0, hg, r0, r1, hv, hk⟩)
def QaL (C : Ctx) (p_s : Str) (p_as : Option (Nat × Nat)) (K : Str → Heap → Prop) (H : Heap) : Prop :=
 Spec Tryz.prog C 94 [sv p_s, pv p_as] H (fun v H2 => ∃ (r0 : Str), v = sv r0 ∧ K r0 H2)
def QaI (C : Ctx) (p_s : Str) (p_as : Option (Nat × Nat)) (K : Str → Heap → Prop) (H : Heap) : Prop :=
 Spec Tryz.prog C 95 [sv p_s, pv p_as] H (fun v H2 => ∃ (r0 : Str), v = sv r0 ∧ K r0 H2)
def Qcs (C : Ctx) (p_s : Str) (p_cutset : Str) (K : Str → Heap → Prop) (H : Heap) : Prop :=
 Spec Tryz.prog C 96 [sv p_s, sv p_cutset] H (fun v H2 => ∃ (r0 : Str), v = sv r0 ∧ K r0 H2)
def Qce (C : Ctx) (p_s : Str) (p_cutset : Str) (K : Str → Heap → Prop) (H : Heap) : Prop :=
 Spec Tryz.prog C 97 [sv p_s, sv p_cutset] H (fun v H2 => ∃ (r0 : Str), v = sv r0 ∧ K r0 H2)
def Qag (C : Ctx) (p_s : Str) (p_substr : Str) (K : Int → Heap → Prop) (H : Heap) : Prop :=
 Spec Tryz.prog C 98 [sv p_s, sv p_substr] H (fun v H2 => ∃ (r0 : Int), v = .int .i64 r0 ∧ K r0 H2)
def Q3 (C : Ctx) (p_data : Sl) (p_a : Int) (p_m : Int) (p_b : Int) (p_cmp : Value) (K : Heap → Prop) (H : Heap) : Prop :=
 Spec Tryz.prog C 99 [slv p_data, .int .i64 p_a, .int .i64 p_m, .int .i64 p_b, p_cmp] H (fun v H2 => v = .tuple #[] ∧ K H2)
def QT (C : Ctx) (p_data : Sl) (p_a : Int) (p_m : Int) (p_b : Int) (p_cmp : Value) (K : Heap → Prop) (H : Heap) : Prop :=
 Spec Tryz.prog C 100 [slv p_data, .int .i64 p_a, .int .i64 p_m, .int .i64 p_b, p_cmp] H (fun v H2 => v = .tuple #[] ∧ K H2)
def QF (C : Ctx) (p_s : Str) (p_prefix : Str) (K : Bool → Heap → Prop) (H : Heap) : Prop :=
 Spec Tryz.prog C 106 [sv p_s, sv p_prefix] H (fun v H2 => ∃ (r0 : Bool), v = .bool r0 ∧ K r0 H2)
def Qbz (C : Ctx) (p_x : Int) (K : Bool → Heap → Prop) (H : Heap) : Prop :=
 Spec Tryz.prog C 107 [.int .i64 p_x] H (fun v H2 => ∃ (r0 : Bool), v = .bool r0 ∧ K r0 H2)
def QV (C : Ctx) (p_as : Option (Nat × Nat)) (p_c : Int) (K : Bool → Heap → Prop) (H : Heap) : Prop :=
 Spec Tryz.prog C 108 [pv p_as, .int .u8 p_c] H (fun v H2 => ∃ (r0 : Bool), v = .bool r0 ∧ K r0 H2)
def Q2 (C : Ctx) (p_s : Str) (p_c : Int) (K : Int → Heap → Prop) (H : Heap) : Prop :=
 Spec Tryz.prog C 112 [sv p_s, .int .u8 p_c] H (fun v H2 => ∃ (r0 : Int), v = .int .i64 r0 ∧ K r0 H2)
def Qcd (C : Ctx) (p_n : Int) (K : Int → Heap → Prop) (H : Heap) : Prop :=
 Spec Tryz.prog C 114 [.int .i64 p_n] H (fun v H2 => ∃ (r0 : Int), v = .int .i64 r0 ∧ K r0 H2)
def Qa1 (C : Ctx) (p_s : Str) (p_sep : Str) (K : Int → Heap → Prop) (H : Heap) : Prop :=
 Spec Tryz.prog C 115 [sv p_s, sv p_sep] H (fun v H2 => ∃ (r0 : Int), v = .int .i64 r0 ∧ K r0 H2)
def Qm (C : Ctx) (p_data : Sl) (p_a : Int) (p_b : Int) (p_n : Int) (p_cmp : Value) (K : Heap → Prop) (H : Heap) : Prop :=
 Spec Tryz.prog C 116 [slv p_data, .int .i64 p_a, .int .i64 p_b, .int .i64 p_n, p_cmp] H (fun v H2 => v = .tuple #[] ∧ K H2)
def Ql (C : Ctx) (p_data : Sl) (p_a : Int) (p_b : Int) (p_n : Int) (p_cmp : Value) (K : Heap → Prop) (H : Heap) : Prop :=
 Spec Tryz.prog C 117 [slv p_data, .int .i64 p_a, .int .i64 p_b, .int .i64 p_n, p_cmp] H (fun v H2 => v = .tuple #[] ∧ K H2)
def QcC (C : Ctx) (p_x : Sl) (p_rows : Sl) (K : Bool → Heap → Prop) (H : Heap) : Prop :=
 lp (α := Int × Int) (0, 0) H (fun x1 J2 H3 =>
 ift ((decide ((x1.2 : Int) < (Sl.len p_rows : Int))) && (decide ((x1.1 : Int) < 40)))
 (lp (α := Int × Int) ((w .i64 (x1.1 + 1)), 0) H3 (fun x6 J7 H8 =>
 ixa p_rows x1.2 fun p9 =>
 ldL H8 (p9.1, p9.2 + (x1.2 : Int).toNat * 1) fun x14 =>
 ift ((decide ((x6.2 : Int) < (Sl.len x14 : Int))) && (decide ((x6.1 : Int) < 40)))
 (ixa p_rows x1.2 fun p18 =>
 ldL H8 (p18.1, p18.2 + (x1.2 : Int).toNat * 1) fun x23 =>
 ixa x23 x6.2 fun p25 =>
 ldT H8 Qb.c (p25.1, p25.2 + (x6.2 : Int).toNat * 4) fun x30 =>
 QS C x30 10 (fun r32 H33 =>
 J7 ((w .i64 (x6.1 + (w .i64 (Int.tdiv r32 10)))), (w .i64 (x6.2 + 1))) H33) H8)
 (J2 (x6.1, (w .i64 (x1.2 + 1))) H8)))
 (QcI C p_x (fun r34 H35 =>
 jn (α := Bool) (fun b37 H43 =>
 ift b37
 (QbA C (fun r45 H46 =>
 K r45 H46) H43)
 (QcH C p_x (fun r47 H48 =>
 Qay C r47 (fun r49 r50 H51 =>
 jn (α := Unit) (fun x53 H54 =>
 lp (α := Int) 0 H54 (fun x109 J110 H111 =>
 ift (decide ((x109 : Int) < (Sl.len p_rows : Int)))
 (lp (α := Int) 0 H111 (fun x113 J114 H115 =>
 ixa p_rows x109 fun p116 =>
 ldL H115 (p116.1, p116.2 + (x109 : Int).toNat * 1) fun x121 =>
 ift (decide ((x113 : Int) < (Sl.len x121 : Int)))
 (ixa p_rows x109 fun p124 =>
 ldL H115 (p124.1, p124.2 + (x109 : Int).toNat * 1) fun x129 =>
 ixa x129 x113 fun p131 =>
 ldT H115 Qb.c (p131.1, p131.2 + (x113 : Int).toNat * 4) fun x136 =>
 Qah C x136 (fun r138 H139 =>
 ift ((r138 : Int) != 0)
 (K true H139)
 (J114 (w .i64 (x113 + 1)) H139)) H115)
 (J110 (w .i64 (x109 + 1)) H115)))
 (QeW C p_rows (fun r141 r142 H143 =>
 QdD C r141 (fun r144 r145 H146 =>
 jn (α := Bool) (fun b148 H156 =>
 K b148 H156)
 (fun J149 => ift (((r142 : Int) == 0) && ((r145 : Int) == 0))
 (Qc0 C p_rows (fun r152 H153 =>
 QbO C r144 r152 (fun r154 H155 =>
 J149 r154 H155) H153) H146)
 (J149 false H146))) H143) H111)))
 (fun J52 => ift ((r50 : Int) == 0)
 (Qay C r49 (fun r57 r58 H59 =>
 Qci C r49 r50 r57 r58 (fun r60 H61 =>
 ift (!r60)
 (K false H61)
 (lp (α := Int) 0 H61 (fun x63 J64 H65 =>
 ift (decide ((x63 : Int) < (Sl.len r49 : Int)))
 (jn (α := Bool) (fun x68 H69 =>
 ift x68
 (K false H69)
 (J64 (w .i64 (x63 + 1)) H69))
 (fun J67 => dr H65 fun Hs71 =>
 ixa r49 x63 fun p73 =>
 ldI Hs71 .i64 ((p73.1, p73.2 + (x63 : Int).toNat * 2).1, (p73.1, p73.2 + (x63 : Int).toNat * 2).2 + 1) fun x78 =>
 ift ((x78 : Int) == 0)
 (J67 true H65)
 (ift (decide ((x63 : Int) > 0))
 (ixa r49 (w .i64 (x63 - 1)) fun p82 =>
 ldL Hs71 ((p82.1, p82.2 + (w .i64 (x63 - 1) : Int).toNat * 2).1, (p82.1, p82.2 + (w .i64 (x63 - 1) : Int).toNat * 2).2 + 0) fun x87 =>
 ixa r49 x63 fun p89 =>
 ldL Hs71 ((p89.1, p89.2 + (x63 : Int).toNat * 2).1, (p89.1, p89.2 + (x63 : Int).toNat * 2).2 + 0) fun x94 =>
 QG C x87 x94 (fun r97 H98 =>
 Heap.le Hs71 H98 ∧
 J67 ((r97 : Int) != (-1)) H98) H65)
 (J67 false H65))))
 (Qad C r49 (fun r100 r101 H102 =>
 Qad C r100 (fun r103 r104 H105 =>
 Qci C r100 r101 r103 r104 (fun r106 H107 =>
 ift (!r106)
 (K false H107)
 (J52 () H107)) H105) H102) H65)))) H59) H51)
 (J52 () H51))) H48) H43))
 (fun J38 => ift (r34 || (decide ((x1.1 : Int) ≥ 40)))
 (J38 true H35)
 (QbA C (fun r41 H42 =>
 J38 (!r41) H42) H35))) H3))
theorem Qek (C p_x p_rows K H) (h : QcC C p_x p_rows K H) : QaP C p_x p_rows K H := by
 refine Ye Tryz.func4 rfl Tryz.ntmps4 [(0, slv p_x), (1, slv p_rows)] (Zo (Za (GL.nil (Zo (Za (GL.nil (GC.seq (Zo (Za (GL.nil (GC.block (Yp h (fun x1 => [(5, .int .i64 x1.1), (6, .int .i64 x1.2), (0, slv p_x), (1, slv p_rows)]) ?_))))))))))))
 intro x1 H3 J2 h
 refine GC.seq (Zo (Zm (Zm (Zq (Zi (.bool (decide ((x1.2 : Int) < (Sl.len p_rows : Int)))) (Zm (GL.cut0 3 [(28, .bool ((decide ((x1.2 : Int) < (Sl.len p_rows : Int))) && (decide ((x1.1 : Int) < 40)))), (0, slv p_x), (1, slv p_rows), (5, .int .i64 x1.1), (6, .int .i64 x1.2)] ?_ ?_)))))))
 rcases Zb (decide ((x1.2 : Int) < (Sl.len p_rows : Int))) with u4 | u4
 refine Zu u4 Ym (Zu u4 (OV.ibin (v := .bool (decide ((x1.1 : Int) < 40))) rfl rfl rfl) (Zt u4 ?_))
 exact GL.jump0 (fun _ _ h => h) () rfl ⟨(by rw [u4]; rfl), rfl, rfl, rfl, rfl, trivial⟩
 refine Zk u4 (Zk u4 (Zn u4 ?_))
 exact GL.jump0 (fun _ _ h => h) () rfl ⟨(by rw [u4]; rfl), rfl, rfl, rfl, rfl, trivial⟩
 refine GL.nil (Yd h (fun u5 h => ?_) fun u5 h => ?_)
 refine GC.skip (GC.seq (GC.block (Zo (Zm (Zi (.int .i64 (w .i64 (x1.1 + 1))) (Za (GL.nil (Zo (Za (GL.nil (GC.block (Yp h (fun x6 => [(5, .int .i64 x6.1), (7, .int .i64 x6.2), (0, slv p_x), (1, slv p_rows), (6, .int .i64 x1.2)]) ?_))))))))))))
 intro x6 H8 J7 h
 refine GC.seq (Zo (Zm (Zm (Zm (Yx h fun p9 h => ?_)))))
 refine Yl h fun x14 h => ?_
 refine Zq (Zi (.bool (decide ((x6.2 : Int) < (Sl.len x14 : Int)))) (Zm (GL.cut0 3 [(43, .bool ((decide ((x6.2 : Int) < (Sl.len x14 : Int))) && (decide ((x6.1 : Int) < 40)))), (0, slv p_x), (1, slv p_rows), (5, .int .i64 x6.1), (6, .int .i64 x1.2), (7, .int .i64 x6.2)] ?_ ?_)))
 rcases Zb (decide ((x6.2 : Int) < (Sl.len x14 : Int))) with u16 | u16
 refine Zu u16 Ym (Zu u16 (OV.ibin (v := .bool (decide ((x6.1 : Int) < 40))) rfl rfl rfl) (Zt u16 ?_))
 exact GL.jump0 (fun _ _ h => h) () rfl ⟨(by rw [u16]; rfl), rfl, rfl, rfl, rfl, rfl, trivial⟩
 refine Zk u16 (Zk u16 (Zn u16 ?_))
 exact GL.jump0 (fun _ _ h => h) () rfl ⟨(by rw [u16]; rfl), rfl, rfl, rfl, rfl, rfl, trivial⟩
 refine GL.nil (Yd h (fun u17 h => ?_) fun u17 h => ?_)
 refine GC.skip (GC.seq (GC.block (GC.region (Zm (Zm (Zm (Yx h fun p18 h => ?_)))))))
 refine Yl h fun x23 h => ?_
 refine Zm (Yx h fun p25 h => ?_)
 obtain ⟨x30, v31, h⟩ := h
 refine Zv (OV.loadT rfl rfl rfl v31) (Zc h Qb5 ?_)
 rintro _ H33 ⟨r32, rfl, h⟩
 refine Zv (OV.quo rfl rfl (by decide)) (Zi (.int .i64 (w .i64 (x6.1 + (w .i64 (Int.tdiv r32 10))))) (Za (GL.nil_to (fun _ _ h => h) (GC.region (Zm (Zi (.int .i64 (w .i64 (x6.2 + 1))) (Za ?_)))))))
 exact Yj I3 ((w .i64 (x6.1 + (w .i64 (Int.tdiv r32 10)))), (w .i64 (x6.2 + 1))) h
 refine GC.exit_to (fun _ _ h => h) (GC.region (Zm (Zi (.int .i64 (w .i64 (x1.2 + 1))) (Za ?_))))
 exact Yj I3 (x6.1, (w .i64 (x1.2 + 1))) h
 refine GC.exit_to (fun _ _ h => h) (GC.seq (Zo (Zm (Zc h Qfy ?_))))
 rintro _ H35 ⟨r34, rfl, h⟩
 refine Zm (GL.cut0 3 [(62, .bool (r34 || (decide ((x1.1 : Int) ≥ 40)))), (0, slv p_x), (1, slv p_rows)] ?_ ?_)
 rcases Bool.eq_false_or_eq_true r34 with u36 | u36
 refine Zk u36 (Zk u36 (Zt u36 ?_))
 exact GL.jump0 (fun _ _ h => h) () rfl ⟨(by rw [u36]; rfl), rfl, rfl, trivial⟩
 refine Zu u36 Ym (Zu u36 (OV.ibin (v := .bool (decide ((x1.1 : Int) ≥ 40))) rfl rfl rfl) (Zn u36 ?_))
 exact GL.jump0 (fun _ _ h => h) () rfl ⟨(by rw [u36]; rfl), rfl, rfl, trivial⟩
 refine Zm ?_
 obtain ⟨J38, h, hR39⟩ := h
 refine GL.cut (α := Bool) 3 J38 (fun b37 => [(66, .bool b37), (0, slv p_x), (1, slv p_rows)]) ?_ ?_
 rcases h.em with ⟨u40, h⟩ | ⟨u40, h⟩
 refine Zk u40 (Zk u40 (Zt u40 ?_))
 exact Yj I3 true h
 refine GL.call h (Yt u40) rfl Qdo (vs := []) rfl ?_
 rintro _ H42 ⟨r41, rfl, h⟩
 refine Zu u40 (OV.not rfl) (Zn u40 ?_)
 exact Yj I3 (!r41) h
 intro b37 H43 h
 replace h := hR39 b37 H43 h
 refine GL.nil (Yd h (fun u44 h => ?_) fun u44 h => ?_)
 refine Zo (Zc h Qdo ?_)
 rintro _ H46 ⟨r45, rfl, h⟩
 refine Za (GL.nil ?_)
 exact Y1 I3 ⟨r45, rfl, h⟩
 refine GC.skip (Zo (Zm (Zc h Qfx ?_)))
 rintro _ H48 ⟨r47, rfl, h⟩
 refine Zc h QbD ?_
 rintro _ H51 ⟨r49, r50, rfl, h⟩
 refine Zm (Yv (slv r49) rfl rfl (Yv (.int .i64 r50) rfl rfl (Za (Za (GL.nil ?_)))))
 obtain ⟨J52, h, hR55⟩ := h
 refine GC.join (α := Unit) J52 (fun _ => [(1, slv p_rows)]) ?_ ?_
 refine Zo (Zm (Zi (.bool ((r50 : Int) == 0)) (GL.nil (Yd h (fun u56 h => ?_) fun u56 h => ?_))))
 refine Zo (Zm (Zc h QbD ?_))
 rintro _ H59 ⟨r57, r58, rfl, h⟩
 refine Zm (Yv (slv r57) rfl rfl (Yv (.int .i64 r58) rfl rfl (Za (Za (GL.nil (GC.seq (Zo (Zm (Zm (Zm (Zm (Zc h QdZ ?_))))))))))))
 rintro _ H61 ⟨r60, rfl, h⟩
 refine Zv (OV.not rfl) (GL.nil (Yd h (fun u62 h => ?_) fun u62 h => ?_))
 refine Zo (Za (GL.nil ?_))
 exact Y1 I3 ⟨false, rfl, h⟩
 refine GC.skip (GC.seq (Zo (Za (GL.nil (GC.block (Yp h (fun x63 => [(12, .int .i64 x63), (1, slv p_rows), (8, slv r49)]) ?_))))))
 intro x63 H65 J64 h
 refine GC.seq (Zo (Zm (Zm (Zq (Zi (.bool (decide ((x63 : Int) < (Sl.len r49 : Int)))) (GL.nil (Yd h (fun u66 h => ?_) fun u66 h => ?_)))))))
 refine GC.skip (GC.seq (GC.block (GC.seq ?_)))
 obtain ⟨J67, h, hR70⟩ := h
 refine GC.meet (α := Bool) J67 (fun x68 => [(117, .bool x68), (1, slv p_rows), (8, slv r49), (12, .int .i64 x63)]) ?_ ?_
 obtain ⟨Hs71, hle72, h⟩ := h
 refine GC.any (Hs := Hs71) (by kernel_rfl) hle72 (Zp 0 rfl Ym (Zp 1 rfl Ym ?_))
 obtain ⟨p73, ha74, hb75, u76, hd77, h⟩ := h
 refine Zp 2 rfl (OV.indexAddr rfl rfl rfl rfl ha74 hb75 u76 hd77) (Zp 3 rfl Yf ?_)
 obtain ⟨x78, v79, h⟩ := h
 refine Zp 4 rfl (Yo v79) (Zp 5 rfl (OV.ibin (v := .bool ((x78 : Int) == 0)) rfl rfl rfl) (Zp 6 rfl Ym ?_))
 rcases h.em with ⟨u80, h⟩ | ⟨u80, h⟩
 refine Zj 7 rfl (Yw u80) (Zj 8 rfl (Yw u80) (Zj 9 rfl (Yw u80) (Zj 10 rfl ⟨_, rfl, .inr rfl⟩ (Zj 11 rfl ⟨_, rfl, .inr rfl⟩ (Zj 12 rfl ⟨_, rfl, .inr rfl⟩ (Zj 13 rfl ⟨_, rfl, .inr rfl⟩ (Zj 14 rfl ⟨_, rfl, .inr rfl⟩ (Zj 15 rfl ⟨_, rfl, .inr rfl⟩ (Zj 16 rfl ⟨_, rfl, .inr rfl⟩ (Zj 17 rfl ⟨_, rfl, .inr rfl⟩ (Zj 18 rfl ⟨_, rfl, .inr rfl⟩ (Zj 19 rfl ⟨_, rfl, .inr rfl⟩ (Zj 20 rfl ⟨_, rfl, .inr rfl⟩ (Zj 21 rfl ⟨_, rfl, .inr rfl⟩ (Zj 22 rfl ⟨_, rfl, .inr rfl⟩ (Zj 23 rfl (Yw u80) (Zp 24 rfl (OV.pickT rfl u80 rfl) (GA.done (by kernel_rfl) ?_))))))))))))))))))
 exact Yj I3 true h
 refine Zg 7 rfl (Yt u80) Ym (Zg 8 rfl (Yt u80) (OV.ibin (v := .bool (decide ((x63 : Int) > 0))) rfl rfl rfl) (Zg 9 rfl (Yt u80) Ym ?_))
 rcases h.em with ⟨u81, h⟩ | ⟨u81, h⟩
 refine Zg 10 rfl (Yt u81) Ym (Zg 11 rfl (Yt u81) Ym (Zg 12 rfl (Yt u81) (OV.ibin (v := .int .i64 (w .i64 (x63 - 1))) rfl rfl rfl) ?_))
 obtain ⟨p82, ha83, hb84, u85, hd86, h⟩ := h
 refine Zg 13 rfl (Yt u81) (OV.indexAddr rfl rfl rfl rfl ha83 hb84 u85 hd86) (Zg 14 rfl (Yt u81) Yf ?_)
 obtain ⟨x87, v88, h⟩ := h
 refine Zg 15 rfl (Yt u81) (Yo v88) (Zg 16 rfl (Yt u81) Ym (Zg 17 rfl (Yt u81) Ym ?_))
 obtain ⟨p89, ha90, hb91, u92, hd93, h⟩ := h
 refine Zg 18 rfl (Yt u81) (OV.indexAddr rfl rfl rfl rfl ha90 hb91 u92 hd93) (Zg 19 rfl (Yt u81) Yf ?_)
 obtain ⟨x94, v95, h⟩ := h
 refine Zg 20 rfl (Yt u81) (Yo v95) (GA.eff 21 rfl (by kernel_rfl) (GL.call h (Yt u81) rfl Qat (vs := [slv x87, slv x94]) rfl ?_))
 rintro _ H98 ⟨r97, rfl, h⟩
 obtain ⟨hle96, h⟩ := h
 refine GA.back hle96 (Zg 22 rfl (Yt u81) (OV.ibin (v := .bool ((r97 : Int) != (-1))) rfl rfl rfl) (Zg 23 rfl (Yt u80) (OV.pickT rfl u81 rfl) (Zp 24 rfl (OV.pickF rfl u80 rfl) (GA.done (by kernel_rfl) ?_))))
 exact Yj I3 ((r97 : Int) != (-1)) h
 refine Zj 10 rfl (Yw u81) (Zj 11 rfl (Yw u81) (Zj 12 rfl (Yw u81) (Zj 13 rfl (Yw u81) (Zj 14 rfl (Yw u81) (Zj 15 rfl (Yw u81) (Zj 16 rfl (Yw u81) (Zj 17 rfl (Yw u81) (Zj 18 rfl (Yw u81) (Zj 19 rfl (Yw u81) (Zj 20 rfl (Yw u81) (Zj 21 rfl (Yw u81) (Zj 22 rfl (Yw u81) (Zg 23 rfl (Yt u80) (OV.pickF rfl u81 rfl) (Zp 24 rfl (OV.pickF rfl u80 rfl) (GA.done (by kernel_rfl) ?_)))))))))))))))
 exact Yj I3 false h
 intro x68 H69 h
 replace h := hR70 x68 H69 h
 refine GL.nil (Yd h (fun u99 h => ?_) fun u99 h => ?_)
 refine Zo (Za (GL.nil ?_))
 exact Y1 I3 ⟨false, rfl, h⟩
 refine GC.skip_to (fun _ _ h => h) (GC.region (Zm (Zi (.int .i64 (w .i64 (x63 + 1))) (Za ?_))))
 exact Yj I3 (w .i64 (x63 + 1)) h
 refine GC.exit_to (fun _ _ h => h) (Zo (Zm (Zc h Qbi ?_)))
 rintro _ H102 ⟨r100, r101, rfl, h⟩
 refine Zm (Yv (slv r100) rfl rfl (Yv (.int .i64 r101) rfl rfl (Za (Za (GL.nil (Zo (Zm (Zc h Qbi ?_))))))))
 rintro _ H105 ⟨r103, r104, rfl, h⟩
 refine Zm (Yv (slv r103) rfl rfl (Yv (.int .i64 r104) rfl rfl (Za (Za (GL.nil (Zo (Zm (Zm (Zm (Zm (Zc h QdZ ?_)))))))))))
 rintro _ H107 ⟨r106, rfl, h⟩
 refine Zv (OV.not rfl) (GL.nil (Yd h (fun u108 h => ?_) fun u108 h => ?_))
 refine Zo (Za (GL.nil ?_))
 exact Y1 I3 ⟨false, rfl, h⟩
 exact Yk I3 () h
 exact Yk I3 () h
 intro x53 H54 h
 replace h := hR55 x53 H54 h
 refine GC.seq (Zo (Za (GL.nil (GC.block (Yp h (fun x109 => [(16, .int .i64 x109), (1, slv p_rows)]) ?_)))))
 intro x109 H111 J110 h
 refine GC.seq (Zo (Zm (Zm (Zq (Zi (.bool (decide ((x109 : Int) < (Sl.len p_rows : Int)))) (GL.nil (Yd h (fun u112 h => ?_) fun u112 h => ?_)))))))
 refine GC.skip (GC.seq (GC.block (Zo (Za (GL.nil (GC.block (Yp h (fun x113 => [(17, .int .i64 x113), (1, slv p_rows), (16, .int .i64 x109)]) ?_)))))))
 intro x113 H115 J114 h
 refine GC.seq (Zo (Zm (Zm (Zm (Yx h fun p116 h => ?_)))))
 refine Yl h fun x121 h => ?_
 refine Zq (Zi (.bool (decide ((x113 : Int) < (Sl.len x121 : Int)))) (GL.nil (Yd h (fun u123 h => ?_) fun u123 h => ?_)))
 refine GC.skip (GC.seq (GC.block (Zo (Zm (Zm (Yx h fun p124 h => ?_))))))
 refine Yl h fun x129 h => ?_
 refine Zm (Yx h fun p131 h => ?_)
 obtain ⟨x136, v137, h⟩ := h
 refine Zv (OV.loadT rfl rfl rfl v137) (Zc h Qcv ?_)
 rintro _ H139 ⟨r138, rfl, h⟩
 refine Zi (.bool ((r138 : Int) != 0)) (GL.nil (Yd h (fun u140 h => ?_) fun u140 h => ?_))
 refine Zo (Za (GL.nil ?_))
 exact Y1 I3 ⟨true, rfl, h⟩
 refine GC.skip_to (fun _ _ h => h) (GC.region (Zm (Zi (.int .i64 (w .i64 (x113 + 1))) (Za ?_))))
 exact Yj I3 (w .i64 (x113 + 1)) h
 refine GC.exit_to (fun _ _ h => h) (GC.region (Zm (Zi (.int .i64 (w .i64 (x109 + 1))) (Za ?_))))
 exact Yj I3 (w .i64 (x109 + 1)) h
 refine GC.exit_to (fun _ _ h => h) (Zo (Zm (Zc h QhN ?_)))
 rintro _ H143 ⟨r141, r142, rfl, h⟩
 refine Zm (Yv (slv r141) rfl rfl (Yv (.int .i64 r142) rfl rfl (Za (Za (GL.nil (Zo (Zm (Zc h QgB ?_))))))))
 rintro _ H146 ⟨r144, r145, rfl, h⟩
 refine Zm (Yv (slv r144) rfl rfl (Yv (.int .i64 r145) rfl rfl (Za (Za (GL.nil (Zo (Zm (Zi (.bool ((r142 : Int) == 0)) (Zm (GL.cut0 3 [(173, .bool (((r142 : Int) == 0) && ((r145 : Int) == 0))), (1, slv p_rows), (19, slv r144)] ?_ ?_))))))))))
 rcases Zb ((r142 : Int) == 0) with u147 | u147
 refine Zu u147 Ym (Zu u147 (OV.ibin (v := .bool ((r145 : Int) == 0)) rfl rfl rfl) (Zt u147 ?_))
 exact GL.jump0 (fun _ _ h => h) () rfl ⟨(by rw [u147]; rfl), rfl, rfl, trivial⟩
 refine Zk u147 (Zk u147 (Zn u147 ?_))
 exact GL.jump0 (fun _ _ h => h) () rfl ⟨(by rw [u147]; rfl), rfl, rfl, trivial⟩
 refine Zm ?_
 obtain ⟨J149, h, hR150⟩ := h
 refine GL.cut (α := Bool) 5 J149 (fun b148 => [(179, .bool b148)]) ?_ ?_
 rcases h.em with ⟨u151, h⟩ | ⟨u151, h⟩
 refine Zu u151 Ym (Zu u151 Ym (GL.call h (Yt u151) rfl Qga (vs := [slv p_rows]) rfl ?_))
 rintro _ H153 ⟨r152, rfl, h⟩
 refine GL.call h (Yt u151) rfl Qep (vs := [slv r144, slv r152]) rfl ?_
 rintro _ H155 ⟨r154, rfl, h⟩
 refine Zt u151 ?_
 exact Yj I3 r154 h
 refine Zk u151 (Zk u151 (Zk u151 (Zk u151 (Zn u151 ?_))))
 exact Yj I3 false h
 intro b148 H156 h
 replace h := hR150 b148 H156 h
 refine Za (GL.nil ?_)
 exact Y1 I3 ⟨b148, rfl, h⟩
def Qdt (C : Ctx) (p_l : Sl) (K : Bool → Heap → Prop) (H : Heap) : Prop :=
 lp (α := Int × Int) ((Sl.len p_l : Int), 0) H (fun x1 J2 H3 =>
 ift ((decide ((x1.2 : Int) < (Sl.len p_l : Int))) && (decide ((x1.1 : Int) < 500)))
 (ixa p_l x1.2 fun p6 =>
 ldL H3 ((p6.1, p6.2 + (x1.2 : Int).toNat * 2).1, (p6.1, p6.2 + (x1.2 : Int).toNat * 2).2 + 0) fun x11 =>
 lp (α := Int × Int) ((w .i64 (x1.1 + (Sl.len x11 : Int))), 0) H3 (fun x13 J14 H15 =>
 ixa p_l x1.2 fun p16 =>
 ldL H15 ((p16.1, p16.2 + (x1.2 : Int).toNat * 2).1, (p16.1, p16.2 + (x1.2 : Int).toNat * 2).2 + 0) fun x21 =>
 ift ((decide ((x13.2 : Int) < (Sl.len x21 : Int))) && (decide ((x13.1 : Int) < 500)))
 (ixa p_l x1.2 fun p25 =>
 ldL H15 ((p25.1, p25.2 + (x1.2 : Int).toNat * 2).1, (p25.1, p25.2 + (x1.2 : Int).toNat * 2).2 + 0) fun x30 =>
 ixa x30 x13.2 fun p32 =>
 ldT H15 Qb.c (p32.1, p32.2 + (x13.2 : Int).toNat * 4) fun x37 =>
 QS C x37 500 (fun r39 H40 =>
 J14 ((w .i64 (x13.1 + r39)), (w .i64 (x13.2 + 1))) H40) H15)
 (J2 (x13.1, (w .i64 (x1.2 + 1))) H15)))
 (K (decide ((x1.1 : Int) ≥ 500)) H3))
theorem Qfp (C p_l K H) (h : Qdt C p_l K H) : QcI C p_l K H := by
 refine Ye Tryz.func5 rfl Tryz.ntmps5 [(0, slv p_l)] (Zo (Za (GL.nil (Zo (Zm (Zq (Za (GL.nil (GC.seq (Zo (Za (GL.nil (GC.block (Yp h (fun x1 => [(3, .int .i64 x1.1), (4, .int .i64 x1.2), (0, slv p_l)]) ?_))))))))))))))
 intro x1 H3 J2 h
 refine GC.seq (Zo (Zm (Zm (Zq (Zi (.bool (decide ((x1.2 : Int) < (Sl.len p_l : Int)))) (Zm (GL.cut0 3 [(15, .bool ((decide ((x1.2 : Int) < (Sl.len p_l : Int))) && (decide ((x1.1 : Int) < 500)))), (0, slv p_l), (3, .int .i64 x1.1), (4, .int .i64 x1.2)] ?_ ?_)))))))
 rcases Zb (decide ((x1.2 : Int) < (Sl.len p_l : Int))) with u4 | u4
 refine Zu u4 Ym (Zu u4 (OV.ibin (v := .bool (decide ((x1.1 : Int) < 500))) rfl rfl rfl) (Zt u4 ?_))
 exact GL.jump0 (fun _ _ h => h) () rfl ⟨(by rw [u4]; rfl), rfl, rfl, rfl, trivial⟩
 refine Zk u4 (Zk u4 (Zn u4 ?_))
 exact GL.jump0 (fun _ _ h => h) () rfl ⟨(by rw [u4]; rfl), rfl, rfl, rfl, trivial⟩
 refine GL.nil (Yd h (fun u5 h => ?_) fun u5 h => ?_)
 refine GC.skip (GC.seq (GC.block (Zo (Zm (Zm (Zm (Yx h fun p6 h => ?_)))))))
 refine Zf (Yl h fun x11 h => ?_)
 refine Zq (Zi (.int .i64 (w .i64 (x1.1 + (Sl.len x11 : Int)))) (Za (GL.nil (Zo (Za (GL.nil (GC.block (Yp h (fun x13 => [(3, .int .i64 x13.1), (5, .int .i64 x13.2), (0, slv p_l), (4, .int .i64 x1.2)]) ?_))))))))
 intro x13 H15 J14 h
 refine GC.seq (Zo (Zm (Zm (Zm (Yx h fun p16 h => ?_)))))
 refine Zf (Yl h fun x21 h => ?_)
 refine Zq (Zi (.bool (decide ((x13.2 : Int) < (Sl.len x21 : Int)))) (Zm (GL.cut0 3 [(37, .bool ((decide ((x13.2 : Int) < (Sl.len x21 : Int))) && (decide ((x13.1 : Int) < 500)))), (0, slv p_l), (3, .int .i64 x13.1), (4, .int .i64 x1.2), (5, .int .i64 x13.2)] ?_ ?_)))
 rcases Zb (decide ((x13.2 : Int) < (Sl.len x21 : Int))) with u23 | u23
 refine Zu u23 Ym (Zu u23 (OV.ibin (v := .bool (decide ((x13.1 : Int) < 500))) rfl rfl rfl) (Zt u23 ?_))
 exact GL.jump0 (fun _ _ h => h) () rfl ⟨(by rw [u23]; rfl), rfl, rfl, rfl, rfl, trivial⟩
 refine Zk u23 (Zk u23 (Zn u23 ?_))
 exact GL.jump0 (fun _ _ h => h) () rfl ⟨(by rw [u23]; rfl), rfl, rfl, rfl, rfl, trivial⟩
 refine GL.nil (Yd h (fun u24 h => ?_) fun u24 h => ?_)
 refine GC.skip (GC.seq (GC.block (GC.region (Zm (Zm (Zm (Yx h fun p25 h => ?_)))))))
 refine Zf (Yl h fun x30 h => ?_)
 refine Zm (Yx h fun p32 h => ?_)
 obtain ⟨x37, v38, h⟩ := h
 refine Zv (OV.loadT rfl rfl rfl v38) (Zc h Qb5 ?_)
 rintro _ H40 ⟨r39, rfl, h⟩
 refine Zi (.int .i64 (w .i64 (x13.1 + r39))) (Za (GL.nil_to (fun _ _ h => h) (GC.region (Zm (Zi (.int .i64 (w .i64 (x13.2 + 1))) (Za ?_))))))
 exact Yj I3 ((w .i64 (x13.1 + r39)), (w .i64 (x13.2 + 1))) h
 refine GC.exit_to (fun _ _ h => h) (GC.region (Zm (Zi (.int .i64 (w .i64 (x1.2 + 1))) (Za ?_))))
 exact Yj I3 (x13.1, (w .i64 (x1.2 + 1))) h
 refine GC.exit_to (fun _ _ h => h) (Zo (Zm (Zi (.bool (decide ((x1.1 : Int) ≥ 500))) (Za (GL.nil ?_)))))
 exact Y1 I3 ⟨(decide ((x1.1 : Int) ≥ 500)), rfl, h⟩
def Qdr (C : Ctx) (K : Bool → Heap → Prop) (H : Heap) : Prop :=
 nw ((Qb.c (⟨2, 1, [], Sl.nil⟩ : Qb)) ++ []) (fun b1 H2 =>
 nw ((Qb.c (⟨2, 2, [], Sl.nil⟩ : Qb)) ++ []) (fun b3 H4 =>
 nw ((Qa.c (⟨(Sl.of (some (b3, 0)) 1 1), 1⟩ : Qa)) ++ (Qa.c (⟨(Sl.of (some (b1, 0)) 1 1), 3⟩ : Qa)) ++ (Qa.c (⟨(Sl.of (some (b3, 0)) 1 1), (-1)⟩ : Qa)) ++ (Qa.c (⟨(Sl.of (some (b1, 0)) 1 1), (-1)⟩ : Qa)) ++ []) (fun b5 H6 =>
 Qay C (Sl.of (some (b5, 0)) 4 4) (fun r7 r8 H9 =>
 nw ((Qa.c (⟨(Sl.of (some (b1, 0)) 1 1), (-3)⟩ : Qa)) ++ (Qa.c (⟨(Sl.of (some (b3, 0)) 1 1), 1⟩ : Qa)) ++ []) (fun b10 H11 =>
 Qde C r7 (Sl.of (some (b10, 0)) 2 2) (fun r12 r13 H14 =>
 Qad C r12 (fun r15 r16 H17 =>
 jn (α := Bool) (fun b19 H30 =>
 jn (α := Bool) (fun b33 H44 =>
 jn (α := Bool) (fun b47 H58 =>
 jn (α := Bool) (fun b59 H72 =>
 K b59 H72)
 (fun J60 => ift b47
 (ixa r15 0 fun p63 =>
 ldL H58 ((p63.1, p63.2 + (0 : Int).toNat * 2).1, (p63.1, p63.2 + (0 : Int).toNat * 2).2 + 0) fun x68 =>
 QG C x68 (Sl.of (some (b3, 0)) 1 1) (fun r70 H71 =>
 J60 ((r70 : Int) == 0) H71) H58)
 (J60 false H58)))
 (fun J48 => ift ((b33 && ((r16 : Int) == 0)) && (((Sl.len r15 : Int) : Int) == 1))
 (ixa r15 0 fun p51 =>
 ldI H44 .i64 ((p51.1, p51.2 + (0 : Int).toNat * 2).1, (p51.1, p51.2 + (0 : Int).toNat * 2).2 + 1) fun x56 =>
 J48 ((x56 : Int) == 1) H44)
 (J48 false H44)))
 (fun J34 => ift ((b19 && ((r13 : Int) == 0)) && (((Sl.len r12 : Int) : Int) == 2))
 (ixa r12 0 fun p37 =>
 ldI H30 .i64 ((p37.1, p37.2 + (0 : Int).toNat * 2).1, (p37.1, p37.2 + (0 : Int).toNat * 2).2 + 1) fun x42 =>
 J34 ((x42 : Int) == (-1)) H30)
 (J34 false H30)))
 (fun J20 => ift (((r8 : Int) == 0) && (((Sl.len r7 : Int) : Int) == 1))
 (ixa r7 0 fun p23 =>
 ldI H17 .i64 ((p23.1, p23.2 + (0 : Int).toNat * 2).1, (p23.1, p23.2 + (0 : Int).toNat * 2).2 + 1) fun x28 =>
 J20 ((x28 : Int) == 2) H17)
 (J20 false H17))) H14) H11) H9) H6) H4) H2) H
theorem Qfn (C : Ctx) (K : Bool → Heap → Prop) (H : Heap) (h : Qdr C  K H) : QbA C  K H := by
 refine Spec.enter Tryz.func6 rfl Tryz.ntmps6 rfl (GC.sub [] trivial (Zo (Za (GL.nil (Zo (Zv (OV.build (vs := [(0, .int .u8 2), (1, .int .i64 1)]) (v := .agg (Qb.c (⟨2, 1, [], Sl.nil⟩ : Qb)).toArray) rfl (fun _ => by kernel_rfl)) (GL.buildSlice (cs := (Qb.c (⟨2, 1, [], Sl.nil⟩ : Qb)) ++ []) h trivial rfl (vs := [(0, .agg (Qb.c (⟨2, 1, [], Sl.nil⟩ : Qb)).toArray)]) rfl ⟨39, fun _ => by kernel_rfl⟩ ?_)))))))
 intro b1 H2 h
 refine Zv (OV.build (vs := [(0, .int .u8 2), (1, .int .i64 2)]) (v := .agg (Qb.c (⟨2, 2, [], Sl.nil⟩ : Qb)).toArray) rfl (fun _ => by kernel_rfl)) (GL.buildSlice (cs := (Qb.c (⟨2, 2, [], Sl.nil⟩ : Qb)) ++ []) h trivial rfl (vs := [(0, .agg (Qb.c (⟨2, 2, [], Sl.nil⟩ : Qb)).toArray)]) rfl ⟨39, fun _ => by kernel_rfl⟩ ?_)
 intro b3 H4 h
 refine Za (Za (GL.nil (Zo (Zm (Zv (OV.build (vs := [(0, slv (Sl.of (some (b3, 0)) 1 1)), (1, .int .i64 1)]) (v := .agg (Qa.c (⟨(Sl.of (some (b3, 0)) 1 1), 1⟩ : Qa)).toArray) rfl (fun _ => by kernel_rfl)) (Zm (Zv (OV.build (vs := [(0, slv (Sl.of (some (b1, 0)) 1 1)), (1, .int .i64 3)]) (v := .agg (Qa.c (⟨(Sl.of (some (b1, 0)) 1 1), 3⟩ : Qa)).toArray) rfl (fun _ => by kernel_rfl)) (Zm (Zv (OV.build (vs := [(0, slv (Sl.of (some (b3, 0)) 1 1)), (1, .int .i64 (-1))]) (v := .agg (Qa.c (⟨(Sl.of (some (b3, 0)) 1 1), (-1)⟩ : Qa)).toArray) rfl (fun _ => by kernel_rfl)) (Zm (Zv (OV.build (vs := [(0, slv (Sl.of (some (b1, 0)) 1 1)), (1, .int .i64 (-1))]) (v := .agg (Qa.c (⟨(Sl.of (some (b1, 0)) 1 1), (-1)⟩ : Qa)).toArray) rfl (fun _ => by kernel_rfl)) ?_)))))))))))
 refine GL.buildSlice (cs := (Qa.c (⟨(Sl.of (some (b3, 0)) 1 1), 1⟩ : Qa)) ++ (Qa.c (⟨(Sl.of (some (b1, 0)) 1 1), 3⟩ : Qa)) ++ (Qa.c (⟨(Sl.of (some (b3, 0)) 1 1), (-1)⟩ : Qa)) ++ (Qa.c (⟨(Sl.of (some (b1, 0)) 1 1), (-1)⟩ : Qa)) ++ []) h trivial rfl (vs := [(0, .agg (Qa.c (⟨(Sl.of (some (b3, 0)) 1 1), 1⟩ : Qa)).toArray), (1, .agg (Qa.c (⟨(Sl.of (some (b1, 0)) 1 1), 3⟩ : Qa)).toArray), (2, .agg (Qa.c (⟨(Sl.of (some (b3, 0)) 1 1), (-1)⟩ : Qa)).toArray), (3, .agg (Qa.c (⟨(Sl.of (some (b1, 0)) 1 1), (-1)⟩ : Qa)).toArray)]) rfl ⟨43, fun _ => by kernel_rfl⟩ ?_
 intro b5 H6 h
 refine Zc h QbD ?_
 rintro _ H9 ⟨r7, r8, rfl, h⟩
 refine Zm (Yv (slv r7) rfl rfl (Yv (.int .i64 r8) rfl rfl (Za (Za (GL.nil (Zo (Zm (Zm (Zv (OV.build (vs := [(0, slv (Sl.of (some (b1, 0)) 1 1)), (1, .int .i64 (-3))]) (v := .agg (Qa.c (⟨(Sl.of (some (b1, 0)) 1 1), (-3)⟩ : Qa)).toArray) rfl (fun _ => by kernel_rfl)) (Zm (Zv (OV.build (vs := [(0, slv (Sl.of (some (b3, 0)) 1 1)), (1, .int .i64 1)]) (v := .agg (Qa.c (⟨(Sl.of (some (b3, 0)) 1 1), 1⟩ : Qa)).toArray) rfl (fun _ => by kernel_rfl)) ?_)))))))))))
 refine GL.buildSlice (cs := (Qa.c (⟨(Sl.of (some (b1, 0)) 1 1), (-3)⟩ : Qa)) ++ (Qa.c (⟨(Sl.of (some (b3, 0)) 1 1), 1⟩ : Qa)) ++ []) h trivial rfl (vs := [(0, .agg (Qa.c (⟨(Sl.of (some (b1, 0)) 1 1), (-3)⟩ : Qa)).toArray), (1, .agg (Qa.c (⟨(Sl.of (some (b3, 0)) 1 1), 1⟩ : Qa)).toArray)]) rfl ⟨43, fun _ => by kernel_rfl⟩ ?_
 intro b10 H11 h
 refine Zc h Qhd ?_
 rintro _ H14 ⟨r12, r13, rfl, h⟩
 refine Zm (Yv (slv r12) rfl rfl (Yv (.int .i64 r13) rfl rfl (Za (Za (GL.nil (Zo (Zm (Zc h Qbi ?_))))))))
 rintro _ H17 ⟨r15, r16, rfl, h⟩
 refine Zm (Yv (slv r15) rfl rfl (Yv (.int .i64 r16) rfl rfl (Za (Za (GL.nil (Zo (Zm (Zi (.bool ((r8 : Int) == 0)) (Zm (GL.cut0 4 [(47, .bool (((r8 : Int) == 0) && (((Sl.len r7 : Int) : Int) == 1))), (2, slv (Sl.of (some (b3, 0)) 1 1)), (3, slv r7), (5, slv r12), (6, .int .i64 r13), (7, slv r15), (8, .int .i64 r16)] ?_ ?_))))))))))
 rcases Zb ((r8 : Int) == 0) with hc18 | hc18
 refine Zu hc18 Ym (Zu hc18 (OV.lenSl rfl rfl) (Zu hc18 (OV.ibin (v := .bool (((Sl.len r7 : Int) : Int) == 1)) rfl rfl rfl) (Zt hc18 ?_)))
 exact GL.jump0 (fun _ _ h => h) () rfl ⟨(by rw [hc18]; rfl), rfl, rfl, rfl, rfl, rfl, rfl, trivial⟩
 refine Zk hc18 (Zk hc18 (Zk hc18 (Zn hc18 ?_)))
 exact GL.jump0 (fun _ _ h => h) () rfl ⟨(by rw [hc18]; rfl), rfl, rfl, rfl, rfl, rfl, rfl, trivial⟩
 refine Zm ?_
 obtain ⟨J20, h, hR21⟩ := h
 refine GL.cut (α := Bool) 6 J20 (fun b19 => [(54, .bool b19), (2, slv (Sl.of (some (b3, 0)) 1 1)), (5, slv r12), (6, .int .i64 r13), (7, slv r15), (8, .int .i64 r16)]) ?_ ?_
 rcases h.em with ⟨hc22, h⟩ | ⟨hc22, h⟩
 refine Zu hc22 Ym ?_
 obtain ⟨p23, ha24, hb25, hc26, hd27, h⟩ := h
 refine Zu hc22 (OV.indexAddr rfl rfl rfl rfl ha24 hb25 hc26 hd27) (Zu hc22 Yf ?_)
 obtain ⟨x28, v29, h⟩ := h
 refine Zu hc22 (Yo v29) (Zu hc22 (OV.ibin (v := .bool ((x28 : Int) == 2)) rfl rfl rfl) (Zt hc22 ?_))
 exact Yj I3 ((x28 : Int) == 2) h
 refine Zk hc22 (Zk hc22 (Zk hc22 (Zk hc22 (Zk hc22 (Zn hc22 ?_)))))
 exact Yj I3 false h
 intro b19 H30 h
 replace h := hR21 b19 H30 h
 refine Zm (GL.cut0 3 [(58, .bool (b19 && ((r13 : Int) == 0))), (2, slv (Sl.of (some (b3, 0)) 1 1)), (5, slv r12), (7, slv r15), (8, .int .i64 r16)] ?_ ?_)
 rcases Bool.eq_false_or_eq_true b19 with hc31 | hc31
 refine Zu hc31 Ym (Zu hc31 (OV.ibin (v := .bool ((r13 : Int) == 0)) rfl rfl rfl) (Zt hc31 ?_))
 exact GL.jump0 (fun _ _ h => h) () rfl ⟨(by rw [hc31]; rfl), rfl, rfl, rfl, rfl, trivial⟩
 refine Zk hc31 (Zk hc31 (Zn hc31 ?_))
 exact GL.jump0 (fun _ _ h => h) () rfl ⟨(by rw [hc31]; rfl), rfl, rfl, rfl, rfl, trivial⟩
 refine Zm (GL.cut0 4 [(63, .bool ((b19 && ((r13 : Int) == 0)) && (((Sl.len r12 : Int) : Int) == 2))), (2, slv (Sl.of (some (b3, 0)) 1 1)), (5, slv r12), (7, slv r15), (8, .int .i64 r16)] ?_ ?_)
 rcases Zb (b19 && ((r13 : Int) == 0)) with hc32 | hc32
 refine Zu hc32 Ym (Zu hc32 (OV.lenSl rfl rfl) (Zu hc32 (OV.ibin (v := .bool (((Sl.len r12 : Int) : Int) == 2)) rfl rfl rfl) (Zt hc32 ?_)))
 exact GL.jump0 (fun _ _ h => h) () rfl ⟨(by rw [hc32]; rfl), rfl, rfl, rfl, rfl, trivial⟩
 refine Zk hc32 (Zk hc32 (Zk hc32 (Zn hc32 ?_)))
 exact GL.jump0 (fun _ _ h => h) () rfl ⟨(by rw [hc32]; rfl), rfl, rfl, rfl, rfl, trivial⟩
 refine Zm ?_
 obtain ⟨J34, h, hR35⟩ := h
 refine GL.cut (α := Bool) 6 J34 (fun b33 => [(70, .bool b33), (2, slv (Sl.of (some (b3, 0)) 1 1)), (7, slv r15), (8, .int .i64 r16)]) ?_ ?_
 rcases h.em with ⟨hc36, h⟩ | ⟨hc36, h⟩
 refine Zu hc36 Ym ?_
 obtain ⟨p37, ha38, hb39, hc40, hd41, h⟩ := h
 refine Zu hc36 (OV.indexAddr rfl rfl rfl rfl ha38 hb39 hc40 hd41) (Zu hc36 Yf ?_)
 obtain ⟨x42, v43, h⟩ := h
 refine Zu hc36 (Yo v43) (Zu hc36 (OV.ibin (v := .bool ((x42 : Int) == (-1))) rfl rfl rfl) (Zt hc36 ?_))
 exact Yj I3 ((x42 : Int) == (-1)) h
 refine Zk hc36 (Zk hc36 (Zk hc36 (Zk hc36 (Zk hc36 (Zn hc36 ?_)))))
 exact Yj I3 false h
 intro b33 H44 h
 replace h := hR35 b33 H44 h
 refine Zm (GL.cut0 3 [(74, .bool (b33 && ((r16 : Int) == 0))), (2, slv (Sl.of (some (b3, 0)) 1 1)), (7, slv r15)] ?_ ?_)
 rcases Bool.eq_false_or_eq_true b33 with hc45 | hc45
 refine Zu hc45 Ym (Zu hc45 (OV.ibin (v := .bool ((r16 : Int) == 0)) rfl rfl rfl) (Zt hc45 ?_))
 exact GL.jump0 (fun _ _ h => h) () rfl ⟨(by rw [hc45]; rfl), rfl, rfl, trivial⟩
 refine Zk hc45 (Zk hc45 (Zn hc45 ?_))
 exact GL.jump0 (fun _ _ h => h) () rfl ⟨(by rw [hc45]; rfl), rfl, rfl, trivial⟩
 refine Zm (GL.cut0 4 [(79, .bool ((b33 && ((r16 : Int) == 0)) && (((Sl.len r15 : Int) : Int) == 1))), (2, slv (Sl.of (some (b3, 0)) 1 1)), (7, slv r15)] ?_ ?_)
 rcases Zb (b33 && ((r16 : Int) == 0)) with hc46 | hc46
 refine Zu hc46 Ym (Zu hc46 (OV.lenSl rfl rfl) (Zu hc46 (OV.ibin (v := .bool (((Sl.len r15 : Int) : Int) == 1)) rfl rfl rfl) (Zt hc46 ?_)))
 exact GL.jump0 (fun _ _ h => h) () rfl ⟨(by rw [hc46]; rfl), rfl, rfl, trivial⟩
 refine Zk hc46 (Zk hc46 (Zk hc46 (Zn hc46 ?_)))
 exact GL.jump0 (fun _ _ h => h) () rfl ⟨(by rw [hc46]; rfl), rfl, rfl, trivial⟩
 refine Zm ?_
 obtain ⟨J48, h, hR49⟩ := h
 refine GL.cut (α := Bool) 6 J48 (fun b47 => [(86, .bool b47), (2, slv (Sl.of (some (b3, 0)) 1 1)), (7, slv r15)]) ?_ ?_
 rcases h.em with ⟨hc50, h⟩ | ⟨hc50, h⟩
 refine Zu hc50 Ym ?_
 obtain ⟨p51, ha52, hb53, hc54, hd55, h⟩ := h
 refine Zu hc50 (OV.indexAddr rfl rfl rfl rfl ha52 hb53 hc54 hd55) (Zu hc50 Yf ?_)
 obtain ⟨x56, v57, h⟩ := h
 refine Zu hc50 (Yo v57) (Zu hc50 (OV.ibin (v := .bool ((x56 : Int) == 1)) rfl rfl rfl) (Zt hc50 ?_))
 exact Yj I3 ((x56 : Int) == 1) h
 refine Zk hc50 (Zk hc50 (Zk hc50 (Zk hc50 (Zk hc50 (Zn hc50 ?_)))))
 exact Yj I3 false h
 intro b47 H58 h
 replace h := hR49 b47 H58 h
 refine Zm ?_
 obtain ⟨J60, h, hR61⟩ := h
 refine GL.cut (α := Bool) 8 J60 (fun b59 => [(95, .bool b59)]) ?_ ?_
 rcases h.em with ⟨hc62, h⟩ | ⟨hc62, h⟩
 refine Zu hc62 Ym ?_
 obtain ⟨p63, ha64, hb65, hc66, hd67, h⟩ := h
 refine Zu hc62 (OV.indexAddr rfl rfl rfl rfl ha64 hb65 hc66 hd67) (Zu hc62 Yf ?_)
 obtain ⟨x68, v69, h⟩ := h
 refine Zu hc62 (Yo v69) (Zu hc62 Ym (GL.call h (Yt hc62) rfl Qat (vs := [slv x68, slv (Sl.of (some (b3, 0)) 1 1)]) rfl ?_))
 rintro _ H71 ⟨r70, rfl, h⟩
 refine Zu hc62 (OV.ibin (v := .bool ((r70 : Int) == 0)) rfl rfl rfl) (Zt hc62 ?_)
 exact Yj I3 ((r70 : Int) == 0) h
 refine Zk hc62 (Zk hc62 (Zk hc62 (Zk hc62 (Zk hc62 (Zk hc62 (Zk hc62 (Zn hc62 ?_)))))))
 exact Yj I3 false h
 intro b59 H72 h
 replace h := hR61 b59 H72 h
 refine Za (GL.nil ?_)
 exact Y1 I3 ⟨b59, rfl, h⟩
def Qds (C : Ctx) (p_l : Sl) (K : Sl → Heap → Prop) (H : Heap) : Prop :=
 lp (α := Sl × Int) (Sl.nil, 0) H (fun x1 J2 H3 =>
 ift (decide ((x1.2 : Int) < (Sl.len p_l : Int)))
 (dr H3 fun Hs5 =>
 ixa p_l x1.2 fun p7 =>
 ldL Hs5 ((p7.1, p7.2 + (x1.2 : Int).toNat * 2).1, (p7.1, p7.2 + (x1.2 : Int).toNat * 2).2 + 0) fun x12 =>
 ixa p_l x1.2 fun p14 =>
 ldI Hs5 .i64 ((p14.1, p14.2 + (x1.2 : Int).toNat * 2).1, (p14.1, p14.2 + (x1.2 : Int).toNat * 2).2 + 1) fun x19 =>
 QbG C x12 (fun r22 H23 =>
 Heap.le Hs5 H23 ∧
 nw ((Qa.c (⟨r22, x19⟩ : Qa)) ++ []) (fun b25 H26 =>
 Heap.le Hs5 H26 ∧
 apS (Qa.c Qa.zero) 32 x1.1 (Sl.of (some (b25, 0)) 1 1) (fun r28 H29 =>
 Heap.le Hs5 H29 ∧
 J2 (r28, (w .i64 (x1.2 + 1))) H29) H26) H23) H3)
 (K x1.1 H3))
theorem Qfo (C p_l K H) (h : Qds C p_l K H) : QcH C p_l K H := by
 refine Ye Tryz.func7 rfl Tryz.ntmps7 [(0, slv p_l)] (Zo (Za (GL.nil (Zo (Za (GL.nil (GC.seq (Zo (Za (GL.nil (GC.block (Yp h (fun x1 => [(3, slv x1.1), (4, .int .i64 x1.2), (0, slv p_l)]) ?_))))))))))))
 intro x1 H3 J2 h
 refine GC.seq (Zo (Zm (Zm (Zq (Zi (.bool (decide ((x1.2 : Int) < (Sl.len p_l : Int)))) (GL.nil (Yd h (fun u4 h => ?_) fun u4 h => ?_)))))))
 refine GC.skip (GC.seq (GC.block ?_))
 obtain ⟨Hs5, hle6, h⟩ := h
 refine GC.any (Hs := Hs5) (by kernel_rfl) hle6 (Zp 0 rfl Ym (Zp 1 rfl Ym (Zp 2 rfl Ym ?_)))
 obtain ⟨p7, ha8, hb9, u10, hd11, h⟩ := h
 refine Zp 3 rfl (OV.indexAddr rfl rfl rfl rfl ha8 hb9 u10 hd11) (Zp 4 rfl Yf ?_)
 obtain ⟨x12, v13, h⟩ := h
 refine Zp 5 rfl (Yo v13) (Zp 7 rfl Ym (Zp 8 rfl Ym ?_))
 obtain ⟨p14, ha15, hb16, u17, hd18, h⟩ := h
 refine Zp 9 rfl (OV.indexAddr rfl rfl rfl rfl ha15 hb16 u17 hd18) (Zp 10 rfl Yf ?_)
 obtain ⟨x19, v20, h⟩ := h
 refine Zp 11 rfl (Yo v20) (GA.eff 6 rfl (by kernel_rfl) (Zc h Qey ?_))
 rintro _ H23 ⟨r22, rfl, h⟩
 obtain ⟨hle21, h⟩ := h
 refine GA.back hle21 (Zp 12 rfl (OV.build (vs := [(0, slv r22), (1, .int .i64 x19)]) (v := .agg (Qa.c (⟨r22, x19⟩ : Qa)).toArray) rfl (fun _ => by kernel_rfl)) (GA.eff 13 rfl (by kernel_rfl) (GL.buildSlice (cs := (Qa.c (⟨r22, x19⟩ : Qa)) ++ []) h trivial rfl (vs := [(0, .agg (Qa.c (⟨r22, x19⟩ : Qa)).toArray)]) rfl ⟨43, fun _ => by kernel_rfl⟩ ?_)))
 intro b25 H26 h
 obtain ⟨hle24, h⟩ := h
 refine GA.back hle24 (GA.eff 14 rfl (by kernel_rfl) (GL.appendS (s := x1.1) (s2 := (Sl.of (some (b25, 0)) 1 1)) (zc := Qa.c Qa.zero) (bytes := 32) h trivial rfl rfl rfl ⟨⟨_, _, _, rfl, rfl, rfl, rfl, rfl, rfl⟩⟩ rfl ?_))
 intro r28 H29 h
 obtain ⟨hle27, h⟩ := h
 refine GA.back hle27 (Zp 15 rfl Ya (GA.done (by kernel_rfl) (GL.nil_to (fun _ _ h => h) (GC.region (Zm (Zi (.int .i64 (w .i64 (x1.2 + 1))) (Za ?_)))))))
 exact Yj I3 (r28, (w .i64 (x1.2 + 1))) h
 refine GC.exit_to (fun _ _ h => h) (Zo (Zm (Za (GL.nil ?_))))
 exact Y1 I3 ⟨x1.1, rfl, h⟩
def Qff (C : Ctx) (p_a : Sl) (p_b : Sl) (K : Sl → Int → Heap → Prop) (H : Heap) : Prop :=
 nw ((Qc.c (⟨p_a, (.func (.func 27) (List.toArray []) (List.toArray []) : Value)⟩ : Qc)) ++ (Qc.c (⟨p_b, (.func (.func 27) (List.toArray []) (List.toArray []) : Value)⟩ : Qc)) ++ []) (fun b1 H2 =>
 QcM C (Sl.of (some (b1, 0)) 2 2) (fun r3 r4 H5 =>
 K r3 r4 H5) H2) H
theorem QgV (C p_a p_b K H) (h : Qff C p_a p_b K H) : Qde C p_a p_b K H := by
 refine Ye Tryz.func8 rfl Tryz.ntmps8 [(0, slv p_a), (1, slv p_b)] (Zo (Za (Za (GL.nil (Zo (Zm (Zv (OV.build (vs := [(0, slv p_a), (1, .func (.func 27) (List.toArray []) (List.toArray []))]) (v := .agg (Qc.c (⟨p_a, (.func (.func 27) (List.toArray []) (List.toArray []) : Value)⟩ : Qc)).toArray) rfl (fun _ => by kernel_rfl)) (Zm (Zv (OV.build (vs := [(0, slv p_b), (1, .func (.func 27) (List.toArray []) (List.toArray []))]) (v := .agg (Qc.c (⟨p_b, (.func (.func 27) (List.toArray []) (List.toArray []) : Value)⟩ : Qc)).toArray) rfl (fun _ => by kernel_rfl)) (GL.buildSlice (cs := (Qc.c (⟨p_a, (.func (.func 27) (List.toArray []) (List.toArray []) : Value)⟩ : Qc)) ++ (Qc.c (⟨p_b, (.func (.func 27) (List.toArray []) (List.toArray []) : Value)⟩ : Qc)) ++ []) h trivial rfl (vs := [(0, .agg (Qc.c (⟨p_a, (.func (.func 27) (List.toArray []) (List.toArray []) : Value)⟩ : Qc)).toArray), (1, .agg (Qc.c (⟨p_b, (.func (.func 27) (List.toArray []) (List.toArray []) : Value)⟩ : Qc)).toArray)]) rfl ⟨57, fun _ => by kernel_rfl⟩ ?_))))))))))
 intro b1 H2 h
 refine Zc h QeB ?_
 rintro _ H5 ⟨r3, r4, rfl, h⟩
 refine Yv (slv r3) rfl rfl (Yv (.int .i64 r4) rfl rfl (Za (Za (GL.nil ?_))))
 exact Y2 I3 ⟨r3, r4, rfl, h⟩
def Qec (C : Ctx) (p_a : Sl) (p_b : Sl) (K : Bool → Heap → Prop) (H : Heap) : Prop :=
 ift (((Sl.len p_a : Int) : Int) != (Sl.len p_b : Int))
 (K false H)
 (lp (α := Int) 0 H (fun x2 J3 H4 =>
 ift (decide ((x2 : Int) < (Sl.len p_a : Int)))
 (jn (α := Bool) (fun x7 H8 =>
 ift x7
 (K false H8)
 (J3 (w .i64 (x2 + 1)) H8))
 (fun J6 => dr H4 fun Hs10 =>
 ixa p_a x2 fun p12 =>
 ldI Hs10 .i64 ((p12.1, p12.2 + (x2 : Int).toNat * 2).1, (p12.1, p12.2 + (x2 : Int).toNat * 2).2 + 1) fun x17 =>
 ixa p_b x2 fun p19 =>
 ldI Hs10 .i64 ((p19.1, p19.2 + (x2 : Int).toNat * 2).1, (p19.1, p19.2 + (x2 : Int).toNat * 2).2 + 1) fun x24 =>
 ift ((x17 : Int) != x24)
 (J6 true H4)
 (ixa p_a x2 fun p27 =>
 ldL Hs10 ((p27.1, p27.2 + (x2 : Int).toNat * 2).1, (p27.1, p27.2 + (x2 : Int).toNat * 2).2 + 0) fun x32 =>
 ixa p_b x2 fun p34 =>
 ldL Hs10 ((p34.1, p34.2 + (x2 : Int).toNat * 2).1, (p34.1, p34.2 + (x2 : Int).toNat * 2).2 + 0) fun x39 =>
 QaH C x32 x39 (fun r42 H43 =>
 Heap.le Hs10 H43 ∧
 J6 (!r42) H43) H4)))
 (K true H4)))
theorem QfY (C p_a p_b K H) (h : Qec C p_a p_b K H) : Qa2 C p_a p_b K H := by
 refine Ye Tryz.func13 rfl Tryz.ntmps13 [(0, slv p_a), (1, slv p_b)] (Zo (Za (GL.nil (GC.seq (Zo (Zm (Zq (Zm (Zq (Zi (.bool (((Sl.len p_a : Int) : Int) != (Sl.len p_b : Int))) (GL.nil (Yd h (fun u1 h => ?_) fun u1 h => ?_))))))))))))
 refine Zo (Za (GL.nil ?_))
 exact Y1 I3 ⟨false, rfl, h⟩
 refine GC.skip (GC.seq (Zo (Za (GL.nil (GC.block (Yp h (fun x2 => [(5, .int .i64 x2), (0, slv p_a), (1, slv p_b)]) ?_))))))
 intro x2 H4 J3 h
 refine GC.seq (Zo (Zm (Zm (Zq (Zi (.bool (decide ((x2 : Int) < (Sl.len p_a : Int)))) (GL.nil (Yd h (fun u5 h => ?_) fun u5 h => ?_)))))))
 refine GC.skip (GC.seq (GC.block (GC.seq ?_)))
 obtain ⟨J6, h, hR9⟩ := h
 refine GC.meet (α := Bool) J6 (fun x7 => [(41, .bool x7), (0, slv p_a), (1, slv p_b), (5, .int .i64 x2)]) ?_ ?_
 obtain ⟨Hs10, hle11, h⟩ := h
 refine GC.any (Hs := Hs10) (by kernel_rfl) hle11 (Zp 0 rfl Ym (Zp 1 rfl Ym ?_))
 obtain ⟨p12, ha13, hb14, u15, hd16, h⟩ := h
 refine Zp 2 rfl (OV.indexAddr rfl rfl rfl rfl ha13 hb14 u15 hd16) (Zp 3 rfl Yf ?_)
 obtain ⟨x17, v18, h⟩ := h
 refine Zp 4 rfl (Yo v18) (Zp 5 rfl Ym (Zp 6 rfl Ym ?_))
 obtain ⟨p19, ha20, hb21, u22, hd23, h⟩ := h
 refine Zp 7 rfl (OV.indexAddr rfl rfl rfl rfl ha20 hb21 u22 hd23) (Zp 8 rfl Yf ?_)
 obtain ⟨x24, v25, h⟩ := h
 refine Zp 9 rfl (Yo v25) (Zp 10 rfl (OV.ibin (v := .bool ((x17 : Int) != x24)) rfl rfl rfl) (Zp 11 rfl Ym ?_))
 rcases h.em with ⟨u26, h⟩ | ⟨u26, h⟩
 refine Zj 12 rfl (Yw u26) (Zj 13 rfl (Yw u26) (Zj 14 rfl (Yw u26) (Zj 15 rfl (Yw u26) (Zj 16 rfl (Yw u26) (Zj 17 rfl (Yw u26) (Zj 18 rfl (Yw u26) (Zj 19 rfl (Yw u26) (Zj 20 rfl (Yw u26) (Zj 21 rfl (Yw u26) (Zj 22 rfl (Yw u26) (Zj 23 rfl (Yw u26) (Zp 24 rfl (OV.pickT rfl u26 rfl) (GA.done (by kernel_rfl) ?_)))))))))))))
 exact Yj I3 true h
 refine Zg 12 rfl (Yt u26) Ym (Zg 13 rfl (Yt u26) Ym ?_)
 obtain ⟨p27, ha28, hb29, u30, hd31, h⟩ := h
 refine Zg 14 rfl (Yt u26) (OV.indexAddr rfl rfl rfl rfl ha28 hb29 u30 hd31) (Zg 15 rfl (Yt u26) Yf ?_)
 obtain ⟨x32, v33, h⟩ := h
 refine Zg 16 rfl (Yt u26) (Yo v33) (Zg 17 rfl (Yt u26) Ym (Zg 18 rfl (Yt u26) Ym ?_))
 obtain ⟨p34, ha35, hb36, u37, hd38, h⟩ := h
 refine Zg 19 rfl (Yt u26) (OV.indexAddr rfl rfl rfl rfl ha35 hb36 u37 hd38) (Zg 20 rfl (Yt u26) Yf ?_)
 obtain ⟨x39, v40, h⟩ := h
 refine Zg 21 rfl (Yt u26) (Yo v40) (GA.eff 22 rfl (by kernel_rfl) (GL.call h (Yt u26) rfl QbQ (vs := [slv x32, slv x39]) rfl ?_))
 rintro _ H43 ⟨r42, rfl, h⟩
 obtain ⟨hle41, h⟩ := h
 refine GA.back hle41 (Zg 23 rfl (Yt u26) (OV.not rfl) (Zp 24 rfl (OV.pickF rfl u26 rfl) (GA.done (by kernel_rfl) ?_)))
 exact Yj I3 (!r42) h
 intro x7 H8 h
 replace h := hR9 x7 H8 h
 refine GL.nil (Yd h (fun u44 h => ?_) fun u44 h => ?_)
 refine Zo (Za (GL.nil ?_))
 exact Y1 I3 ⟨false, rfl, h⟩
 refine GC.skip_to (fun _ _ h => h) (GC.region (Zm (Zi (.int .i64 (w .i64 (x2 + 1))) (Za ?_))))
 exact Yj I3 (w .i64 (x2 + 1)) h
 refine GC.exit_to (fun _ _ h => h) (Zo (Za (GL.nil ?_)))
 exact Y1 I3 ⟨true, rfl, h⟩
def Qd9 (C : Ctx) (p_l : Sl) (K : Sl → Heap → Prop) (H : Heap) : Prop :=
 lp (α := Sl × Int) (Sl.nil, 0) H (fun x1 J2 H3 =>
 ift (decide ((x1.2 : Int) < (Sl.len p_l : Int)))
 (dr H3 fun Hs5 =>
 ixa p_l x1.2 fun p7 =>
 ldL Hs5 ((p7.1, p7.2 + (x1.2 : Int).toNat * 2).1, (p7.1, p7.2 + (x1.2 : Int).toNat * 2).2 + 0) fun x12 =>
 ixa p_l x1.2 fun p14 =>
 ldI Hs5 .i64 ((p14.1, p14.2 + (x1.2 : Int).toNat * 2).1, (p14.1, p14.2 + (x1.2 : Int).toNat * 2).2 + 1) fun x19 =>
 nw ((Qa.c (⟨x12, x19⟩ : Qa)) ++ []) (fun b22 H23 =>
 Heap.le Hs5 H23 ∧
 apS (Qa.c Qa.zero) 32 x1.1 (Sl.of (some (b22, 0)) 1 1) (fun r25 H26 =>
 Heap.le Hs5 H26 ∧
 J2 (r25, (w .i64 (x1.2 + 1))) H26) H23) H3)
 (K x1.1 H3))
theorem QfV (C p_l K H) (h : Qd9 C p_l K H) : Qch C p_l K H := by
 refine Ye Tryz.func14 rfl Tryz.ntmps14 [(0, slv p_l)] (Zo (Za (GL.nil (Zo (Za (GL.nil (GC.seq (Zo (Za (GL.nil (GC.block (Yp h (fun x1 => [(3, slv x1.1), (4, .int .i64 x1.2), (0, slv p_l)]) ?_))))))))))))
 intro x1 H3 J2 h
 refine GC.seq (Zo (Zm (Zm (Zq (Zi (.bool (decide ((x1.2 : Int) < (Sl.len p_l : Int)))) (GL.nil (Yd h (fun u4 h => ?_) fun u4 h => ?_)))))))
 refine GC.skip (GC.seq (GC.block ?_))
 obtain ⟨Hs5, hle6, h⟩ := h
 refine GC.any (Hs := Hs5) (by kernel_rfl) hle6 (Zp 0 rfl Ym (Zp 1 rfl Ym (Zp 2 rfl Ym ?_)))
 obtain ⟨p7, ha8, hb9, u10, hd11, h⟩ := h
 refine Zp 3 rfl (OV.indexAddr rfl rfl rfl rfl ha8 hb9 u10 hd11) (Zp 4 rfl Yf ?_)
 obtain ⟨x12, v13, h⟩ := h
 refine Zp 5 rfl (Yo v13) (Zp 6 rfl Ym (Zp 7 rfl Ym ?_))
 obtain ⟨p14, ha15, hb16, u17, hd18, h⟩ := h
 refine Zp 8 rfl (OV.indexAddr rfl rfl rfl rfl ha15 hb16 u17 hd18) (Zp 9 rfl Yf ?_)
 obtain ⟨x19, v20, h⟩ := h
 refine Zp 10 rfl (Yo v20) (Zp 11 rfl (OV.build (vs := [(0, slv x12), (1, .int .i64 x19)]) (v := .agg (Qa.c (⟨x12, x19⟩ : Qa)).toArray) rfl (fun _ => by kernel_rfl)) (GA.eff 12 rfl (by kernel_rfl) (GL.buildSlice (cs := (Qa.c (⟨x12, x19⟩ : Qa)) ++ []) h trivial rfl (vs := [(0, .agg (Qa.c (⟨x12, x19⟩ : Qa)).toArray)]) rfl ⟨52, fun _ => by kernel_rfl⟩ ?_)))
 intro b22 H23 h
 obtain ⟨hle21, h⟩ := h
 refine GA.back hle21 (GA.eff 13 rfl (by kernel_rfl) (GL.appendS (s := x1.1) (s2 := (Sl.of (some (b22, 0)) 1 1)) (zc := Qa.c Qa.zero) (bytes := 32) h trivial rfl rfl rfl ⟨⟨_, _, _, rfl, rfl, rfl, rfl, rfl, rfl⟩⟩ rfl ?_))
 intro r25 H26 h
 obtain ⟨hle24, h⟩ := h
 refine GA.back hle24 (Zp 14 rfl Ya (GA.done (by kernel_rfl) (GL.nil_to (fun _ _ h => h) (GC.region (Zm (Zi (.int .i64 (w .i64 (x1.2 + 1))) (Za ?_)))))))
 exact Yj I3 (r25, (w .i64 (x1.2 + 1))) h
 refine GC.exit_to (fun _ _ h => h) (Zo (Zm (Za (GL.nil ?_))))
 exact Y1 I3 ⟨x1.1, rfl, h⟩
def Qc7 (C : Ctx) (p_v : Qb) (p_most : Int) (K : Int → Heap → Prop) (H : Heap) : Prop :=
 nw (Qb.c p_v) (fun b1 H2 =>
 ldS H2 ((b1, 0).1, (b1, 0).2 + 2) fun x3 =>
 lp (α := Int × Int) ((w .i64 (1 + (w .i64 (Int.tdiv (List.length x3 : Int) 50)))), 0) H2 (fun x5 J6 H7 =>
 ldL H7 ((b1, 0).1, (b1, 0).2 + 3) fun x8 =>
 ift ((decide ((x5.2 : Int) < (Sl.len x8 : Int))) && (decide ((x5.1 : Int) < p_most)))
 (ldL H7 ((b1, 0).1, (b1, 0).2 + 3) fun x12 =>
 ixa x12 x5.2 fun p14 =>
 ldT H7 Qb.c (p14.1, p14.2 + (x5.2 : Int).toNat * 4) fun x19 =>
 QS C x19 (w .i64 (p_most - x5.1)) (fun r21 H22 =>
 J6 ((w .i64 (x5.1 + r21)), (w .i64 (x5.2 + 1))) H22) H7)
 (K x5.1 H7))) H
theorem QeR (C p_v p_most K H) (h : Qc7 C p_v p_most K H) : QS C p_v p_most K H := by
 refine Ye Tryz.func15 rfl Tryz.ntmps15 [(0, .agg (Qb.c p_v).toArray), (1, .int .i64 p_most)] (Zo (GL.box (v := .agg (Qb.c p_v).toArray) (cs := Qb.c p_v) h trivial rfl rfl rfl ?_))
 intro b1 H2 h
 refine Za (GL.nil (Zo (Zf (Yl h fun x3 h => ?_))))
 refine Zr (Zv (OV.quo rfl rfl (by decide)) (Zi (.int .i64 (w .i64 (1 + (w .i64 (Int.tdiv (List.length x3 : Int) 50))))) (Za (GL.nil (GC.seq (Zo (Za (GL.nil (GC.block (Yp h (fun x5 => [(5, .int .i64 x5.1), (6, .int .i64 x5.2), (1, .int .i64 p_most), (2, pv (some (b1, 0)))]) ?_))))))))))
 intro x5 H7 J6 h
 refine GC.seq (Zo (Zm (Zf (Yl h fun x8 h => ?_))))
 refine Zq (Zi (.bool (decide ((x5.2 : Int) < (Sl.len x8 : Int)))) (Zm (GL.cut0 4 [(21, .bool ((decide ((x5.2 : Int) < (Sl.len x8 : Int))) && (decide ((x5.1 : Int) < p_most)))), (1, .int .i64 p_most), (2, pv (some (b1, 0))), (5, .int .i64 x5.1), (6, .int .i64 x5.2)] ?_ ?_)))
 rcases Zb (decide ((x5.2 : Int) < (Sl.len x8 : Int))) with u10 | u10
 refine Zu u10 Ym (Zu u10 Ym (Zu u10 (OV.ibin (v := .bool (decide ((x5.1 : Int) < p_most))) rfl rfl rfl) (Zt u10 ?_)))
 exact GL.jump0 (fun _ _ h => h) () rfl ⟨(by rw [u10]; rfl), rfl, rfl, rfl, rfl, trivial⟩
 refine Zk u10 (Zk u10 (Zk u10 (Zn u10 ?_)))
 exact GL.jump0 (fun _ _ h => h) () rfl ⟨(by rw [u10]; rfl), rfl, rfl, rfl, rfl, trivial⟩
 refine GL.nil (Yd h (fun u11 h => ?_) fun u11 h => ?_)
 refine GC.skip (GC.seq (GC.block (GC.region (Zm (Zf (Yl h fun x12 h => ?_))))))
 refine Zm (Yx h fun p14 h => ?_)
 obtain ⟨x19, v20, h⟩ := h
 refine Zv (OV.loadT rfl rfl rfl v20) (Zm (Zm (Zi (.int .i64 (w .i64 (p_most - x5.1))) (Zc h Qb5 ?_))))
 rintro _ H22 ⟨r21, rfl, h⟩
 refine Zi (.int .i64 (w .i64 (x5.1 + r21))) (Za (GL.nil_to (fun _ _ h => h) (GC.region (Zm (Zi (.int .i64 (w .i64 (x5.2 + 1))) (Za ?_))))))
 exact Yj I3 ((w .i64 (x5.1 + r21)), (w .i64 (x5.2 + 1))) h
 refine GC.exit_to (fun _ _ h => h) (Zo (Zm (Za (GL.nil ?_))))
 exact Y1 I3 ⟨x5.1, rfl, h⟩
def Qeh (C : Ctx) (p_l : Sl) (K : Sl → Int → Heap → Prop) (H : Heap) : Prop :=
 nw ((Qc.c (⟨p_l, (.func (.func 27) (List.toArray []) (List.toArray []) : Value)⟩ : Qc)) ++ []) (fun b1 H2 =>
 QcM C (Sl.of (some (b1, 0)) 1 1) (fun r3 r4 H5 =>
 K r3 r4 H5) H2) H
theorem Qf3 (C p_l K H) (h : Qeh C p_l K H) : Qay C p_l K H := by
 refine Ye Tryz.func16 rfl Tryz.ntmps16 [(0, slv p_l)] (Zo (Za (Za (GL.nil (Zo (Zm (Zv (OV.build (vs := [(0, slv p_l), (1, .func (.func 27) (List.toArray []) (List.toArray []))]) (v := .agg (Qc.c (⟨p_l, (.func (.func 27) (List.toArray []) (List.toArray []) : Value)⟩ : Qc)).toArray) rfl (fun _ => by kernel_rfl)) (GL.buildSlice (cs := (Qc.c (⟨p_l, (.func (.func 27) (List.toArray []) (List.toArray []) : Value)⟩ : Qc)) ++ []) h trivial rfl (vs := [(0, .agg (Qc.c (⟨p_l, (.func (.func 27) (List.toArray []) (List.toArray []) : Value)⟩ : Qc)).toArray)]) rfl ⟨57, fun _ => by kernel_rfl⟩ ?_))))))))
 intro b1 H2 h
 refine Zc h QeB ?_
 rintro _ H5 ⟨r3, r4, rfl, h⟩
 refine Yv (slv r3) rfl rfl (Yv (.int .i64 r4) rfl rfl (Za (Za (GL.nil ?_))))
 exact Y2 I3 ⟨r3, r4, rfl, h⟩
def Qea (C : Ctx) (p_a : Sl) (p_e : Int) (p_b : Sl) (p_f : Int) (K : Bool → Heap → Prop) (H : Heap) : Prop :=
 jn (α := Bool) (fun b2 H12 =>
 K b2 H12)
 (fun J3 => ift (((p_e : Int) == 0) && ((p_f : Int) == 0))
 (Qch C p_a (fun r6 H7 =>
 Qch C p_b (fun r8 H9 =>
 Qa2 C r6 r8 (fun r10 H11 =>
 J3 r10 H11) H9) H7) H)
 (J3 false H))
theorem QfW (C p_a p_e p_b p_f K H) (h : Qea C p_a p_e p_b p_f K H) : Qci C p_a p_e p_b p_f K H := by
 refine Ye Tryz.func17 rfl Tryz.ntmps17 [(0, slv p_a), (1, .int .i64 p_e), (2, slv p_b), (3, .int .i64 p_f)] (Zo (Za (GL.nil (Zo (Zm (Zi (.bool ((p_e : Int) == 0)) (Zm (GL.cut0 3 [(14, .bool (((p_e : Int) == 0) && ((p_f : Int) == 0))), (0, slv p_a), (2, slv p_b)] ?_ ?_))))))))
 rcases Zb ((p_e : Int) == 0) with u1 | u1
 refine Zu u1 Ym (Zu u1 (OV.ibin (v := .bool ((p_f : Int) == 0)) rfl rfl rfl) (Zt u1 ?_))
 exact GL.jump0 (fun _ _ h => h) () rfl ⟨(by rw [u1]; rfl), rfl, rfl, trivial⟩
 refine Zk u1 (Zk u1 (Zn u1 ?_))
 exact GL.jump0 (fun _ _ h => h) () rfl ⟨(by rw [u1]; rfl), rfl, rfl, trivial⟩
 refine Zm ?_
 obtain ⟨J3, h, hR4⟩ := h
 refine GL.cut (α := Bool) 6 J3 (fun b2 => [(21, .bool b2)]) ?_ ?_
 rcases h.em with ⟨u5, h⟩ | ⟨u5, h⟩
 refine Zu u5 Ym (GL.call h (Yt u5) rfl QdY (vs := [slv p_a]) rfl ?_)
 rintro _ H7 ⟨r6, rfl, h⟩
 refine Zu u5 Ym (GL.call h (Yt u5) rfl QdY (vs := [slv p_b]) rfl ?_)
 rintro _ H9 ⟨r8, rfl, h⟩
 refine GL.call h (Yt u5) rfl Qf9 (vs := [slv r6, slv r8]) rfl ?_
 rintro _ H11 ⟨r10, rfl, h⟩
 refine Zt u5 ?_
 exact Yj I3 r10 h
 refine Zk u5 (Zk u5 (Zk u5 (Zk u5 (Zk u5 (Zn u5 ?_)))))
 exact Yj I3 false h
 intro b2 H12 h
 replace h := hR4 b2 H12 h
 refine Za (GL.nil ?_)
 exact Y1 I3 ⟨b2, rfl, h⟩
def QcW (C : Ctx) (p_a : Sl) (p_b : Sl) (K : Int → Heap → Prop) (H : Heap) : Prop :=
 QcL C p_a (fun r1 H2 =>
 QcL C p_b (fun r3 H4 =>
 ift ((!r1) || (!r3))
 (Qc1 C r1 r3 (fun r7 H8 =>
 K r7 H8) H4)
 (QbK C p_a p_b (fun r9 H10 =>
 K r9 H10) H4)) H2) H
theorem QeM (C p_a p_b K H) (h : QcW C p_a p_b K H) : QG C p_a p_b K H := by
 refine Ye Tryz.func18 rfl Tryz.ntmps18 [(0, slv p_a), (1, slv p_b)] (Zo (Za (GL.nil (GC.seq (Zo (Zm (Zc h Qez ?_)))))))
 rintro _ H2 ⟨r1, rfl, h⟩
 refine Zm (Zc h Qez ?_)
 rintro _ H4 ⟨r3, rfl, h⟩
 refine Za (Za (GL.nil (Zo (Zm (Zv (OV.not rfl) (Zm (GL.cut0 3 [(16, .bool ((!r1) || (!r3))), (0, slv p_a), (1, slv p_b), (5, .bool r1), (6, .bool r3)] ?_ ?_)))))))
 rcases Zb (!r1) with u5 | u5
 refine Zk u5 (Zk u5 (Zt u5 ?_))
 exact GL.jump0 (fun _ _ h => h) () rfl ⟨(by rw [u5]; rfl), rfl, rfl, rfl, rfl, trivial⟩
 refine Zu u5 Ym (Zu u5 (OV.not rfl) (Zn u5 ?_))
 exact GL.jump0 (fun _ _ h => h) () rfl ⟨(by rw [u5]; rfl), rfl, rfl, rfl, rfl, trivial⟩
 refine GL.nil (Yd h (fun u6 h => ?_) fun u6 h => ?_)
 refine Zo (Zm (Zm (Zc h Qgb ?_)))
 rintro _ H8 ⟨r7, rfl, h⟩
 refine Za (GL.nil ?_)
 exact Y1 I3 ⟨r7, rfl, h⟩
 refine GC.skip (Zo (Zm (Zm (Zc h Qd2 ?_))))
 rintro _ H10 ⟨r9, rfl, h⟩
 refine Za (GL.nil ?_)
 exact Y1 I3 ⟨r9, rfl, h⟩
def QbR (C : Ctx) (p_l : Sl) (K : Sl → Int → Heap → Prop) (H : Heap) : Prop :=
 Qay C p_l (fun r1 r2 H3 =>
 Qj C r1 (.func (.func 37) (List.toArray []) (List.toArray []) : Value) (fun r4 H5 =>
 lp (α := Int) 0 H5 (fun x6 J7 H8 =>
 ift (decide ((x6 : Int) < (Sl.len r4 : Int)))
 (ixa r4 x6 fun p10 =>
 st ((p10.1, p10.2 + (x6 : Int).toNat * 2).1, (p10.1, p10.2 + (x6 : Int).toNat * 2).2 + 1) (.int .i64 1) (fun H15 =>
 J7 (w .i64 (x6 + 1)) H15) H8)
 (K r4 r2 H8))) H3) H
theorem QcR (C p_l K H) (h : QbR C p_l K H) : Qad C p_l K H := by
 refine Ye Tryz.func19 rfl Tryz.ntmps19 [(0, slv p_l)] (Zo (Za (Za (GL.nil (Zo (Zm (Zc h QbD ?_)))))))
 rintro _ H3 ⟨r1, r2, rfl, h⟩
 refine Zm (Yv (slv r1) rfl rfl (Yv (.int .i64 r2) rfl rfl (Za (Za (GL.nil (Zo (Zm (Zc h QaQ ?_))))))))
 rintro _ H5 ⟨r4, rfl, h⟩
 refine Za (GL.nil (GC.seq (Zo (Zm (Zq (Zm (GL.nil (GC.block (Yp h (fun x6 => [(16, .int .i64 x6), (4, slv r4), (5, .int .i64 r2), (15, .int .i64 (Sl.len r4 : Int))]) ?_)))))))))
 intro x6 H8 J7 h
 refine Zo (Zi (.bool (decide ((x6 : Int) < (Sl.len r4 : Int)))) (GL.nil (GC.seq (Yd h (fun u9 h => ?_) fun u9 h => ?_))))
 refine GC.skip (GC.seq (GC.block (Zo (Zm (Za (GL.nil (GC.region (Zm (Zm (Yx h fun p10 h => ?_))))))))))
 refine Zf (GL.store (p := ((p10.1, p10.2 + (x6 : Int).toNat * 2).1, (p10.1, p10.2 + (x6 : Int).toNat * 2).2 + 1)) (v := .int .i64 1) h trivial rfl rfl rfl rfl ?_)
 intro H15 h
 refine GL.nil_to (fun _ _ h => h) (GC.region (Zi (.int .i64 (w .i64 (x6 + 1))) (Zm ?_)))
 exact Yj I3 (w .i64 (x6 + 1)) h
 refine GC.exit_to (fun _ _ h => h) (Zo (Zm (Zm (Za (Za (GL.nil ?_))))))
 exact Y2 I3 ⟨r4, r2, rfl, h⟩
def Qdv (C : Ctx) (p_v : Qb) (K : Int → Heap → Prop) (H : Heap) : Prop :=
 nw (Qb.c p_v) (fun b1 H2 =>
 ldT H2 Qb.c (b1, 0) fun x3 =>
 Qai C x3 65 (fun r5 H6 =>
 ift (decide ((r5 : Int) > 64))
 (K 65 H6)
 (ldT H6 Qb.c (b1, 0) fun x8 =>
 QJ C x8 (fun r10 r11 H12 =>
 ift (!r10)
 (K 4 H12)
 (ift (!r11)
 (K 40 H12)
 (K 0 H12))) H6)) H2) H
theorem Qfr (C p_v K H) (h : Qdv C p_v K H) : Qah C p_v K H := by
 refine Ye Tryz.func20 rfl Tryz.ntmps20 [(0, .agg (Qb.c p_v).toArray)] (Zo (GL.box (v := .agg (Qb.c p_v).toArray) (cs := Qb.c p_v) h trivial rfl rfl rfl ?_))
 intro b1 H2 h
 refine Za (GL.nil (GC.seq (Zo ?_)))
 obtain ⟨x3, v4, h⟩ := h
 refine Zv (OV.loadT rfl rfl rfl v4) (Zc h Qdp ?_)
 rintro _ H6 ⟨r5, rfl, h⟩
 refine Zi (.bool (decide ((r5 : Int) > 64))) (GL.nil (Yd h (fun u7 h => ?_) fun u7 h => ?_))
 refine Zo (Za (GL.nil ?_))
 exact Y1 I3 ⟨65, rfl, h⟩
 refine GC.skip (GC.seq (Zo ?_))
 obtain ⟨x8, v9, h⟩ := h
 refine Zv (OV.loadT rfl rfl rfl v9) (Zc h Qcl ?_)
 rintro _ H12 ⟨r10, r11, rfl, h⟩
 refine Zm (Yv (.bool r10) rfl rfl (Yv (.bool r11) rfl rfl (Za (Za (GL.nil (GC.block (Zo (Zm (Zv (OV.not rfl) (Za (GL.nil (Yd h (fun u13 h => ?_) fun u13 h => ?_))))))))))))
 refine Zo (Za (GL.nil ?_))
 exact Y1 I3 ⟨4, rfl, h⟩
 refine Zo (Zm (Zv (OV.not rfl) (Za (GL.nil (Yd h (fun u14 h => ?_) fun u14 h => ?_)))))
 refine Zo (Za (GL.nil ?_))
 exact Y1 I3 ⟨40, rfl, h⟩
 refine GC.skip_to (fun _ _ h => h) (Zo (Za (GL.nil ?_)))
 exact Y1 I3 ⟨0, rfl, h⟩
def QfQ (C : Ctx) (p_rows : Sl) (K : Sl → Int → Heap → Prop) (H : Heap) : Prop :=
 lp (α := Sl × Int) (Sl.nil, 0) H (fun x1 J2 H3 =>
 ift (decide ((x1.2 : Int) < (Sl.len p_rows : Int)))
 (ixa p_rows x1.2 fun p5 =>
 ldL H3 (p5.1, p5.2 + (x1.2 : Int).toNat * 1) fun x10 =>
 apd (Qa.c Qa.zero) 32 x1.1 ((Qa.c (⟨x10, 1⟩ : Qa)) ++ []) 1 (fun r12 H13 =>
 J2 (r12, (w .i64 (x1.2 + 1))) H13) H3)
 (Qay C x1.1 (fun r14 r15 H16 =>
 K r14 r15 H16) H3))
theorem QhI (C p_rows K H) (h : QfQ C p_rows K H) : QeW C p_rows K H := by
 refine Ye Tryz.func21 rfl Tryz.ntmps21 [(0, slv p_rows)] (Zo (Za (Za (GL.nil (Zo (Za (GL.nil (GC.seq (Zo (Zm (Zq (Zm (GL.nil (GC.block (Yp h (fun x1 => [(4, slv x1.1), (9, .int .i64 x1.2), (7, slv p_rows), (8, .int .i64 (Sl.len p_rows : Int))]) ?_)))))))))))))))
 intro x1 H3 J2 h
 refine Zo (Zi (.bool (decide ((x1.2 : Int) < (Sl.len p_rows : Int)))) (GL.nil (GC.seq (Yd h (fun u4 h => ?_) fun u4 h => ?_))))
 refine GC.skip (GC.seq (GC.block (Zo (Yx h fun p5 h => ?_))))
 refine Yl h fun x10 h => ?_
 refine Za (GL.nil (GC.region (Zm (Zm (Zv (OV.build (vs := [(0, slv x10), (1, .int .i64 1)]) (v := .agg (Qa.c (⟨x10, 1⟩ : Qa)).toArray) rfl (fun _ => by kernel_rfl)) (GL.appendLit (s := x1.1) (ys := (Qa.c (⟨x10, 1⟩ : Qa)) ++ []) (zc := Qa.c Qa.zero) (bytes := 32) h trivial rfl (fun _ => trivial) rfl (fun _ => rfl) (fun _ => rfl) (vs := [(0, .agg (Qa.c (⟨x10, 1⟩ : Qa)).toArray)]) rfl ⟨43, fun _ => by kernel_rfl⟩ ⟨⟨_, _, _, rfl, rfl, rfl, rfl, rfl, rfl⟩⟩ rfl rfl ?_))))))
 intro _ r12 H13 h
 refine Za (GL.nil_to (fun _ _ h => h) (GC.region (Zi (.int .i64 (w .i64 (x1.2 + 1))) (Zm ?_))))
 exact Yj I3 (r12, (w .i64 (x1.2 + 1))) h
 refine GC.exit_to (fun _ _ h => h) (Zo (Zm (Zc h QbD ?_)))
 rintro _ H16 ⟨r14, r15, rfl, h⟩
 refine Yv (slv r14) rfl rfl (Yv (.int .i64 r15) rfl rfl (Za (Za (GL.nil ?_))))
 exact Y2 I3 ⟨r14, r15, rfl, h⟩
def QeG (C : Ctx) (p_l : Sl) (K : Sl → Int → Heap → Prop) (H : Heap) : Prop :=
 Qad C p_l (fun r1 r2 H3 =>
 lp (α := Sl × Int) (Sl.nil, 0) H3 (fun x4 J5 H6 =>
 ift (decide ((x4.2 : Int) < (Sl.len r1 : Int)))
 (ixa r1 x4.2 fun p8 =>
 ldT H6 Qa.c (p8.1, p8.2 + (x4.2 : Int).toNat * 2) fun x13 =>
 nw (Qa.c Qa.zero) (fun b15 H16 =>
 stT (b15, 0) (Qa.c x13) (fun H17 =>
 ldL H17 ((b15, 0).1, (b15, 0).2 + 0) fun x18 =>
 apd ([slv Sl.nil]) 24 x4.1 ([slv x18]) 1 (fun r20 H21 =>
 J5 (r20, (w .i64 (x4.2 + 1))) H21) H17) H16) H6)
 (K x4.1 r2 H6))) H
theorem Qgo (C p_l K H) (h : QeG C p_l K H) : QdD C p_l K H := by
 refine Ye Tryz.func22 rfl Tryz.ntmps22 [(0, slv p_l)] (Zo (Za (Za (GL.nil (Zo (Zm (Zc h Qbi ?_)))))))
 rintro _ H3 ⟨r1, r2, rfl, h⟩
 refine Zm (Yv (slv r1) rfl rfl (Yv (.int .i64 r2) rfl rfl (Za (Za (GL.nil (Zo (Za (GL.nil (GC.seq (Zo (Zm (Zq (Zm (GL.nil (GC.block (Yp h (fun x4 => [(6, slv x4.1), (16, .int .i64 x4.2), (5, .int .i64 r2), (14, slv r1), (15, .int .i64 (Sl.len r1 : Int))]) ?_))))))))))))))))
 intro x4 H6 J5 h
 refine Zo (Zi (.bool (decide ((x4.2 : Int) < (Sl.len r1 : Int)))) (GL.nil (GC.seq (Yd h (fun u7 h => ?_) fun u7 h => ?_))))
 refine GC.skip (GC.seq (GC.block (Zo (Yx h fun p8 h => ?_))))
 obtain ⟨x13, v14, h⟩ := h
 refine Zv (OV.loadT rfl rfl rfl v14) (GL.alloc (cs := Qa.c Qa.zero) h trivial rfl rfl rfl ?_)
 intro b15 H16 h
 refine GL.storeT (p := (b15, 0)) (vs := Qa.c x13) h trivial rfl rfl rfl rfl ?_
 intro H17 h
 refine GL.nil (GC.region (Zm (Zf (Yl h fun x18 h => ?_))))
 refine GL.appendLit (s := x4.1) (ys := [slv x18]) (zc := [slv Sl.nil]) (bytes := 24) h trivial rfl (fun _ => trivial) rfl (fun _ => rfl) (fun _ => rfl) (vs := [(0, slv x18)]) rfl ⟨36, fun _ => by kernel_rfl⟩ ⟨⟨_, _, _, rfl, rfl, rfl, rfl, rfl, rfl⟩⟩ rfl rfl ?_
 intro _ r20 H21 h
 refine Za (GL.nil_to (fun _ _ h => h) (GC.region (Zi (.int .i64 (w .i64 (x4.2 + 1))) (Zm ?_))))
 exact Yj I3 (r20, (w .i64 (x4.2 + 1))) h
 refine GC.exit_to (fun _ _ h => h) (Zo (Zm (Zm (Za (Za (GL.nil ?_))))))
 exact Y2 I3 ⟨x4.1, r2, rfl, h⟩
def QcD (C : Ctx) (p_a : Sl) (p_b : Sl) (K : Bool → Heap → Prop) (H : Heap) : Prop :=
 ift (((Sl.len p_a : Int) : Int) != (Sl.len p_b : Int))
 (K false H)
 (lp (α := Int) 0 H (fun x2 J3 H4 =>
 ift (decide ((x2 : Int) < (Sl.len p_a : Int)))
 (dr H4 fun Hs6 =>
 ixa p_a x2 fun p8 =>
 ldL Hs6 (p8.1, p8.2 + (x2 : Int).toNat * 1) fun x13 =>
 ixa p_b x2 fun p15 =>
 ldL Hs6 (p15.1, p15.2 + (x2 : Int).toNat * 1) fun x20 =>
 QaH C x13 x20 (fun r23 H24 =>
 Heap.le Hs6 H24 ∧
 ift (!r23)
 (K false H24)
 (J3 (w .i64 (x2 + 1)) H24)) H4)
 (K true H4)))
theorem Qel (C p_a p_b K H) (h : QcD C p_a p_b K H) : QbO C p_a p_b K H := by
 refine Ye Tryz.func23 rfl Tryz.ntmps23 [(0, slv p_a), (1, slv p_b)] (Zo (Za (GL.nil (GC.seq (Zo (Zm (Zq (Zm (Zq (Zi (.bool (((Sl.len p_a : Int) : Int) != (Sl.len p_b : Int))) (GL.nil (Yd h (fun u1 h => ?_) fun u1 h => ?_))))))))))))
 refine Zo (Za (GL.nil ?_))
 exact Y1 I3 ⟨false, rfl, h⟩
 refine GC.skip (GC.seq (Zo (Za (GL.nil (GC.block (Yp h (fun x2 => [(5, .int .i64 x2), (0, slv p_a), (1, slv p_b)]) ?_))))))
 intro x2 H4 J3 h
 refine GC.seq (Zo (Zm (Zm (Zq (Zi (.bool (decide ((x2 : Int) < (Sl.len p_a : Int)))) (GL.nil (Yd h (fun u5 h => ?_) fun u5 h => ?_)))))))
 refine GC.skip (GC.seq (GC.block (GC.seq ?_)))
 obtain ⟨Hs6, hle7, h⟩ := h
 refine GC.any (Hs := Hs6) (by kernel_rfl) hle7 (Zp 0 rfl Ym (Zp 1 rfl Ym ?_))
 obtain ⟨p8, ha9, hb10, u11, hd12, h⟩ := h
 refine Zp 2 rfl (OV.indexAddr rfl rfl rfl rfl ha9 hb10 u11 hd12) ?_
 obtain ⟨x13, v14, h⟩ := h
 refine Zp 3 rfl (Yo v14) (Zp 4 rfl Ym (Zp 5 rfl Ym ?_))
 obtain ⟨p15, ha16, hb17, u18, hd19, h⟩ := h
 refine Zp 6 rfl (OV.indexAddr rfl rfl rfl rfl ha16 hb17 u18 hd19) ?_
 obtain ⟨x20, v21, h⟩ := h
 refine Zp 7 rfl (Yo v21) (GA.eff 8 rfl (by kernel_rfl) (Zc h QbQ ?_))
 rintro _ H24 ⟨r23, rfl, h⟩
 obtain ⟨hle22, h⟩ := h
 refine GA.back hle22 (Zp 9 rfl (OV.not rfl) (GA.done (by kernel_rfl) (GL.nil (Yd h (fun u25 h => ?_) fun u25 h => ?_))))
 refine Zo (Za (GL.nil ?_))
 exact Y1 I3 ⟨false, rfl, h⟩
 refine GC.skip_to (fun _ _ h => h) (GC.region (Zm (Zi (.int .i64 (w .i64 (x2 + 1))) (Za ?_))))
 exact Yj I3 (w .i64 (x2 + 1)) h
 refine GC.exit_to (fun _ _ h => h) (Zo (Za (GL.nil ?_)))
 exact Y1 I3 ⟨true, rfl, h⟩
def Qed (C : Ctx) (p_l : Sl) (K : Sl → Heap → Prop) (H : Heap) : Prop :=
 lp (α := Sl × Int) (Sl.nil, 0) H (fun x1 J2 H3 =>
 ift (decide ((x1.2 : Int) < (Sl.len p_l : Int)))
 (ixa p_l x1.2 fun p5 =>
 ldL H3 (p5.1, p5.2 + (x1.2 : Int).toNat * 1) fun x10 =>
 QbH C x10 (fun r12 H13 =>
 apd ([slv Sl.nil]) 24 x1.1 ([slv r12]) 1 (fun r14 H15 =>
 J2 (r14, (w .i64 (x1.2 + 1))) H15) H13) H3)
 (Qk C x1.1 (.func (.func 18) (List.toArray []) (List.toArray []) : Value) (fun H16 =>
 Qn C x1.1 (.func (.func 43) (List.toArray []) (List.toArray []) : Value) (fun r17 H18 =>
 K r17 H18) H16) H3))
theorem QfZ (C p_l K H) (h : Qed C p_l K H) : Qc0 C p_l K H := by
 refine Ye Tryz.func24 rfl Tryz.ntmps24 [(0, slv p_l)] (Zo (Za (GL.nil (Zo (Za (GL.nil (GC.seq (Zo (Zm (Zq (Zm (GL.nil (GC.block (Yp h (fun x1 => [(3, slv x1.1), (8, .int .i64 x1.2), (6, slv p_l), (7, .int .i64 (Sl.len p_l : Int))]) ?_))))))))))))))
 intro x1 H3 J2 h
 refine Zo (Zi (.bool (decide ((x1.2 : Int) < (Sl.len p_l : Int)))) (GL.nil (GC.seq (Yd h (fun u4 h => ?_) fun u4 h => ?_))))
 refine GC.skip (GC.seq (GC.block (Zo (Yx h fun p5 h => ?_))))
 refine Yl h fun x10 h => ?_
 refine Za (GL.nil (GC.region (Zm (Zm (Zc h QeA ?_)))))
 rintro _ H13 ⟨r12, rfl, h⟩
 refine GL.appendLit (s := x1.1) (ys := [slv r12]) (zc := [slv Sl.nil]) (bytes := 24) h trivial rfl (fun _ => trivial) rfl (fun _ => rfl) (fun _ => rfl) (vs := [(0, slv r12)]) rfl ⟨36, fun _ => by kernel_rfl⟩ ⟨⟨_, _, _, rfl, rfl, rfl, rfl, rfl, rfl⟩⟩ rfl rfl ?_
 intro _ r14 H15 h
 refine Za (GL.nil_to (fun _ _ h => h) (GC.region (Zi (.int .i64 (w .i64 (x1.2 + 1))) (Zm ?_))))
 exact Yj I3 (r14, (w .i64 (x1.2 + 1))) h
 refine GC.exit_to (fun _ _ h => h) (Zo (Zm (Zc h QaJ ?_)))
 rintro _ H16 ⟨rfl, h⟩
 refine GL.nil (Zo (Zm (Zc h QaW ?_)))
 rintro _ H18 ⟨r17, rfl, h⟩
 refine Za (GL.nil ?_)
 exact Y1 I3 ⟨r17, rfl, h⟩
def QeD (C : Ctx) (p_l : Sl) (K : Sl → Heap → Prop) (H : Heap) : Prop :=
 lp (α := Sl × Int) (Sl.nil, 0) H (fun x1 J2 H3 =>
 ift (decide ((x1.2 : Int) < (Sl.len p_l : Int)))
 (ixa p_l x1.2 fun p5 =>
 ldT H3 Qb.c (p5.1, p5.2 + (x1.2 : Int).toNat * 4) fun x10 =>
 nw (Qb.c Qb.zero) (fun b12 H13 =>
 stT (b12, 0) (Qb.c x10) (fun H14 =>
 ldL H14 ((b12, 0).1, (b12, 0).2 + 3) fun x15 =>
 QbG C x15 (fun r17 H18 =>
 st ((b12, 0).1, (b12, 0).2 + 3) (slv r17) (fun H19 =>
 ldT H19 Qb.c (b12, 0) fun x20 =>
 apd (Qb.c Qb.zero) 56 x1.1 ((Qb.c x20) ++ []) 1 (fun r22 H23 =>
 J2 (r22, (w .i64 (x1.2 + 1))) H23) H19) H18) H14) H13) H3)
 (K x1.1 H3))
theorem Qgl (C p_l K H) (h : QeD C p_l K H) : QbG C p_l K H := by
 refine Ye Tryz.func25 rfl Tryz.ntmps25 [(0, slv p_l)] (Zo (Za (GL.nil (Zo (Za (GL.nil (GC.seq (Zo (Za (GL.nil (GC.block (Yp h (fun x1 => [(3, slv x1.1), (4, .int .i64 x1.2), (0, slv p_l)]) ?_))))))))))))
 intro x1 H3 J2 h
 refine GC.seq (Zo (Zm (Zm (Zq (Zi (.bool (decide ((x1.2 : Int) < (Sl.len p_l : Int)))) (GL.nil (Yd h (fun u4 h => ?_) fun u4 h => ?_)))))))
 refine GC.skip (GC.seq (GC.block (Zo (Zm (Zm (Yx h fun p5 h => ?_))))))
 obtain ⟨x10, v11, h⟩ := h
 refine Zv (OV.loadT rfl rfl rfl v11) (GL.alloc (cs := Qb.c Qb.zero) h trivial rfl rfl rfl ?_)
 intro b12 H13 h
 refine GL.storeT (p := (b12, 0)) (vs := Qb.c x10) h trivial rfl rfl rfl rfl ?_
 intro H14 h
 refine GL.nil (Zo (Zf (Yl h fun x15 h => ?_)))
 refine Zc h Qey ?_
 rintro _ H18 ⟨r17, rfl, h⟩
 refine Zf (GL.store (p := ((b12, 0).1, (b12, 0).2 + 3)) (v := slv r17) h trivial rfl rfl rfl rfl ?_)
 intro H19 h
 refine GL.nil (GC.region (Zm ?_))
 obtain ⟨x20, v21, h⟩ := h
 refine Zv (OV.loadT rfl rfl rfl v21) (GL.appendLit (s := x1.1) (ys := (Qb.c x20) ++ []) (zc := Qb.c Qb.zero) (bytes := 56) h trivial rfl (fun _ => trivial) rfl (fun _ => rfl) (fun _ => rfl) (vs := [(0, .agg (Qb.c x20).toArray)]) rfl ⟨39, fun _ => by kernel_rfl⟩ ⟨⟨_, _, _, rfl, rfl, rfl, rfl, rfl, rfl⟩⟩ rfl rfl ?_)
 intro _ r22 H23 h
 refine Za (GL.nil_to (fun _ _ h => h) (GC.region (Zm (Zi (.int .i64 (w .i64 (x1.2 + 1))) (Za ?_)))))
 exact Yj I3 (r22, (w .i64 (x1.2 + 1))) h
 refine GC.exit_to (fun _ _ h => h) (Zo (Zm (Za (GL.nil ?_))))
 exact Y1 I3 ⟨x1.1, rfl, h⟩
def QeI (C : Ctx) (p_parts : Sl) (K : Sl → Int → Heap → Prop) (H : Heap) : Prop :=
 nw ([slv Sl.nil]) (fun b1 H2 =>
 nw ([.int .i64 0]) (fun b3 H4 =>
 nw ([slv Sl.nil]) (fun b5 H6 =>
 nw ([.int .i64 0]) (fun b7 H8 =>
 st (b7, 0) (.int .i64 0) (fun H9 =>
 QeX C p_parts (fun r10 H11 =>
 Rf.rng Tryz.prog C r10 2 H11
 (fun yl15 r16 us K19 H20 => ∃ (u12 : Qa) (u13 : Value), us = [.agg (Qa.c u12).toArray, u13] ∧
 nw (Qa.c Qa.zero) (fun b38 H39 =>
 stT (b38, 0) (Qa.c u12) (fun H40 =>
 H40 yl15 = some (true, Rf.lrec r16 .ready none) ∧
 ldL (Heap.put H40 yl15 (Rf.lrec r16 .busy none)) ((b38, 0).1, (b38, 0).2 + 0) fun x43 =>
 Qf C x43 (.func (.func 46) (List.toArray []) (List.toArray []) : Value) (fun r45 H46 =>
 ift r45
 (st (b1, 0) (slv Sl.nil) (fun H48 =>
 st (b3, 0) (.int .i64 4) (fun H49 =>
 H49 yl15 = some (true, Rf.lrec r16 .busy none) ∧ K19 false (Heap.put H49 yl15 (Rf.lrec r16 .done (some .ret)))) H48) H46)
 (jn (α := Unit) (fun x51 H52 =>
 dr H52 fun Hs60 =>
 ldL Hs60 (b5, 0) fun x62 =>
 ldL Hs60 ((b38, 0).1, (b38, 0).2 + 0) fun x64 =>
 ldI Hs60 .i64 ((b38, 0).1, (b38, 0).2 + 1) fun x66 =>
 callU Tryz.prog C u13 [.int .i64 x66] H52 (fun v H70 => ∃ (r69 : Int), v = .int .i64 r69 ∧
 Heap.le Hs60 H70 ∧
 nw ((Qa.c (⟨x64, r69⟩ : Qa)) ++ []) (fun b72 H73 =>
 Heap.le Hs60 H73 ∧
 apS (Qa.c Qa.zero) 32 x62 (Sl.of (some (b72, 0)) 1 1) (fun r75 H76 =>
 Heap.le Hs60 H76 ∧
 st (b5, 0) (slv r75) (fun H77 =>
 H77 yl15 = some (true, Rf.lrec r16 .busy none) ∧ K19 true (Heap.put H77 yl15 (Rf.lrec r16 .ready none))) H76) H73) H70))
 (fun J50 => ldI H46 .i64 ((b38, 0).1, (b38, 0).2 + 1) fun x54 =>
 QbY C x54 (fun r56 H57 =>
 ift r56
 (st (b7, 0) (.int .i64 80) (fun H59 =>
 J50 () H59) H57)
 (J50 () H57)) H46))) (Heap.put H40 yl15 (Rf.lrec r16 .busy none))) H39) H20)
 (fun D14 H227 =>
 ldI H227 .i64 (b7, 0) fun x84 =>
 ift ((x84 : Int) != 0)
 (dr H227 fun Hs87 =>
 (ldI H227 .i64 (b7, 0) fun x90 =>
 Heap.le Hs87 H227 ∧
 st (b1, 0) (slv Sl.nil) (fun H93 =>
 Heap.le Hs87 H93 ∧
 st (b3, 0) (.int .i64 x90) (fun H94 =>
 Rf.mk1 H94 D14 (fun Hm95 =>
 ldL Hm95 (b1, 0) fun x99 => ldI Hm95 .i64 (b3, 0) fun x101 =>
 K x99 x101 Hm95)) H93) H227) ∧
 (st (b1, 0) (slv Sl.nil) (fun H104 =>
 Heap.le Hs87 H104 ∧
 ldI H104 .i64 (b7, 0) fun x106 =>
 Heap.le Hs87 H104 ∧
 st (b3, 0) (.int .i64 x106) (fun H108 =>
 Rf.mk1 H108 D14 (fun Hm109 =>
 ldL Hm109 (b1, 0) fun x113 => ldI Hm109 .i64 (b3, 0) fun x115 =>
 K x113 x115 Hm109)) H104) H227))
 (ldL H227 (b5, 0) fun x117 =>
 Qe C x117 (.func (.func 49) (List.toArray []) (List.toArray []) : Value) (fun H119 =>
 lp (α := Sl) Sl.nil H119 (fun x120 J121 H122 =>
 ldL H122 (b5, 0) fun x123 =>
 ift (decide (((Sl.len x123 : Int) : Int) > 0))
 (lp (α := Int × Int) (0, 0) H122 (fun x126 J127 H128 =>
 jn (α := Bool) (fun x130 H131 =>
 ift x130
 (ldL H131 (b5, 0) fun x160 =>
 ixa x160 x126.1 fun p162 =>
 ldI H131 .i64 ((p162.1, p162.2 + (x126.1 : Int).toNat * 2).1, (p162.1, p162.2 + (x126.1 : Int).toNat * 2).2 + 1) fun x167 =>
 J127 ((w .i64 (x126.1 + 1)), (w .i64 (x126.2 + x167))) H131)
 (QbY C x126.2 (fun r169 H170 =>
 ift r169
 (st (b1, 0) (slv Sl.nil) (fun H172 =>
 st (b3, 0) (.int .i64 80) (fun H173 =>
 Rf.mk1 H173 D14 (fun Hm174 =>
 ldL Hm174 (b1, 0) fun x178 => ldI Hm174 .i64 (b3, 0) fun x180 =>
 K x178 x180 Hm174)) H172) H170)
 (jn (α := Sl) (fun x183 H184 =>
 ldL H184 (b5, 0) fun x200 =>
 slL x200 x126.1 (Sl.len x200 : Int) (Sl.cap x200 : Int) 2 fun t202 =>
 st (b5, 0) (slv t202) (fun H208 =>
 J121 x183 H208) H184)
 (fun J182 => ift ((x126.2 : Int) != 0)
 (ldL H170 (b5, 0) fun x187 =>
 ixa x187 0 fun p189 =>
 ldL H170 ((p189.1, p189.2 + (0 : Int).toNat * 2).1, (p189.1, p189.2 + (0 : Int).toNat * 2).2 + 0) fun x194 =>
 QbI C x194 (fun r196 H197 =>
 apd (Qa.c Qa.zero) 32 x120 ((Qa.c (⟨r196, x126.2⟩ : Qa)) ++ []) 1 (fun r198 H199 =>
 J182 r198 H199) H197) H170)
 (J182 x120 H170)))) H131))
 (fun J129 => dr H128 fun Hs133 =>
 ldL Hs133 (b5, 0) fun x135 =>
 ift (decide ((x126.1 : Int) < (Sl.len x135 : Int)))
 (ldL Hs133 (b5, 0) fun x138 =>
 ixa x138 0 fun p140 =>
 ldL Hs133 ((p140.1, p140.2 + (0 : Int).toNat * 2).1, (p140.1, p140.2 + (0 : Int).toNat * 2).2 + 0) fun x145 =>
 ldL Hs133 (b5, 0) fun x147 =>
 ixa x147 x126.1 fun p149 =>
 ldL Hs133 ((p149.1, p149.2 + (x126.1 : Int).toNat * 2).1, (p149.1, p149.2 + (x126.1 : Int).toNat * 2).2 + 0) fun x154 =>
 QG C x145 x154 (fun r157 H158 =>
 Heap.le Hs133 H158 ∧
 J129 ((r157 : Int) == 0) H158) H128)
 (J129 false H128))))
 (st (b1, 0) (slv x120) (fun H209 =>
 st (b3, 0) (.int .i64 0) (fun H210 =>
 Rf.mk1 H210 D14 (fun Hm211 =>
 ldL Hm211 (b1, 0) fun x215 => ldI Hm211 .i64 (b3, 0) fun x217 =>
 K x215 x217 Hm211)) H209) H122))) H227))
 (fun D14 H228 =>
 Rf.mk1 H228 D14 (fun Hm219 =>
 ldL Hm219 (b1, 0) fun x223 => ldI Hm219 .i64 (b3, 0) fun x225 =>
 K x223 x225 Hm219))) H9) H8) H6) H4) H2) H
theorem Qgq (C p_parts K H) (h : QeI C p_parts K H) : QcM C p_parts K H := by
 refine Rf.Spec.enterI Tryz.func26 rfl Tryz.ntmps26 rfl ?_
 refine Rf.GI.sub [(0, slv p_parts)] ⟨rfl, trivial⟩ ?_
 refine Rf.GI.seq ?_
 refine Rf.GI.region (fun _ _ h => h) rfl ?_
 refine GL.alloc (cs := [slv Sl.nil]) h trivial rfl rfl rfl ?_
 intro b1 H2 h
 refine GL.alloc (cs := [.int .i64 0]) h trivial rfl rfl rfl ?_
 intro b3 H4 h
 refine Rf.GI.nil ?_
 refine Rf.GI.seq ?_
 refine Rf.GI.region (fun _ _ h => h) rfl ?_
 refine GL.alloc (cs := [slv Sl.nil]) h trivial rfl rfl rfl ?_
 intro b5 H6 h
 refine Rf.GI.nil ?_
 refine Rf.GI.seq ?_
 refine Rf.GI.region (fun _ _ h => h) rfl ?_
 refine GL.alloc (cs := [.int .i64 0]) h trivial rfl rfl rfl ?_
 intro b7 H8 h
 refine GL.store (p := (b7, 0)) (v := .int .i64 0) h trivial rfl rfl rfl rfl ?_
 intro H9 h
 refine Rf.GI.nil ?_
 refine Rf.GI.seq ?_
 refine Rf.GI.seq ?_
 refine Rf.GI.region (fun _ _ h => h) rfl ?_
 refine GL.val trivial rfl (OV.move (v := slv p_parts) rfl) ?_
 refine GL.call h trivial rfl QgC (vs := [slv p_parts]) rfl ?_
 rintro _ H11 ⟨r10, rfl, h⟩
 refine Rf.GI.nil ?_
 refine Rf.GI.block ?_
 obtain ⟨gf22, xb23, hv24, hok25, h⟩ := h
 refine Rf.GI.rangeFunc (gf := gf22) (xb := xb23) (congrArg some hv24) hok25 ?_
 intro D14 yl15 r16 hD26 hyl27 hne28 hr18 hra29 hrb30 hfr31
 obtain ⟨Y17, hY32, h⟩ := h D14 yl15 r16 hD26 hyl27 hne28
 have hyy36 : Rf.YldS Tryz.prog C yl15 Y17 := by
  refine Rf.YldS.rounds hfr31 (by rw [hr18]; rfl) ?_
  intro us33 K19 H20 hz37
  obtain ⟨q34, q35, h⟩ := hY32 us33 K19 H20 hz37
  refine ⟨q34, by rw [hr18]; exact q35, ?_⟩
  obtain ⟨u12, u13, rfl, h⟩ := h
  rw [hr18, hra29]
  refine Rf.GI.sub [(2, pv (some (b1, 0))), (3, pv (some (b3, 0))), (4, pv (some (b5, 0))), (5, pv (some (b7, 0))), (13, .agg (Qa.c u12).toArray), (14, u13)] ⟨rfl, rfl, rfl, rfl, rfl, rfl, trivial⟩ ?_
  refine Rf.GI.seq ?_
  refine Rf.GI.region (fun _ _ h => h) rfl ?_
  refine GL.alloc (cs := Qa.c Qa.zero) h trivial rfl rfl rfl ?_
  intro b38 H39 h
  refine GL.storeT (p := (b38, 0)) (vs := Qa.c u12) h trivial rfl rfl rfl rfl ?_
  intro H40 h
  refine Rf.GI.nil ?_
  refine Rf.GI.region (fun _ _ h => h) rfl ?_
  refine GL.val trivial rfl (OV.assign (v := u13) rfl) ?_
  obtain ⟨q41, h⟩ := h
  refine Rf.RA.mk q41 ?_
  rw [hrb30]
  refine Rf.GI.block ?_
  refine Rf.GI.seq ?_
  refine Rf.GI.seq ?_
  refine Rf.GI.region (fun _ _ h => h) rfl ?_
  refine GL.val trivial rfl (OV.fieldAddr (p := (b38, 0)) rfl rfl) ?_
  obtain ⟨x43, hr44, h⟩ := h
  refine GL.val trivial rfl (OV.load (p := ((b38, 0).1, (b38, 0).2 + 0)) rfl rfl hr44) ?_
  refine GL.call h trivial rfl Q0 (vs := [slv x43, .func (.func 46) (List.toArray []) (List.toArray [])]) rfl ?_
  rintro _ H46 ⟨r45, rfl, h⟩
  refine Rf.GI.nil ?_
  refine Rf.GI.cond (b := r45) rfl (fun hc47 => ?_) (fun hc47 => ?_)
  ·replace h := And.left h hc47
   refine Rf.GI.seq ?_
   refine Rf.GI.region (fun _ _ h => h) rfl ?_
   refine GL.store (p := (b1, 0)) (v := slv Sl.nil) h trivial rfl rfl rfl rfl ?_
   intro H48 h
   refine GL.store (p := (b3, 0)) (v := .int .i64 4) h trivial rfl rfl rfl rfl ?_
   intro H49 h
   refine Rf.GI.nil ?_
   exact Rf.GI.ret (fun _ _ hf hs => ⟨_, hs, h⟩)
  ·replace h := And.right h hc47
   refine Rf.GI.skip ?_
   obtain ⟨J50, h, hR53⟩ := h
   refine Rf.GI.join (α := Unit) J50 (fun _ => [(2, pv (some (b1, 0))), (3, pv (some (b3, 0))), (4, pv (some (b5, 0))), (6, pv (some (b38, 0))), (7, u13)]) ?_ ?_
   ·skip
    refine Rf.GI.seq ?_
    refine Rf.GI.region (fun _ _ h => h) rfl ?_
    refine GL.val trivial rfl (OV.fieldAddr (p := (b38, 0)) rfl rfl) ?_
    obtain ⟨x54, hr55, h⟩ := h
    refine GL.val trivial rfl (OV.load (p := ((b38, 0).1, (b38, 0).2 + 1)) rfl rfl hr55) ?_
    refine GL.call h trivial rfl Qfa (vs := [.int .i64 x54]) rfl ?_
    rintro _ H57 ⟨r56, rfl, h⟩
    refine Rf.GI.nil ?_
    refine Rf.GI.cond (b := r56) rfl (fun hc58 => ?_) (fun hc58 => ?_)
    ·replace h := And.left h hc58
     refine Rf.GI.region (fun _ _ h => h) rfl ?_
     refine GL.store (p := (b7, 0)) (v := .int .i64 80) h trivial rfl rfl rfl rfl ?_
     intro H59 h
     exact GL.jump (fun _ _ h => h) () h ⟨rfl, rfl, rfl, rfl, rfl, trivial⟩
    ·replace h := And.right h hc58
     exact Rf.GI.jump (fun _ _ h => h) () h ⟨rfl, rfl, rfl, rfl, rfl, trivial⟩
   ·intro x51 H52 h
    replace h := hR53 x51 H52 h
    obtain ⟨Hs60, hle61, h⟩ := h
    refine Rf.GI.tail (Hs := Hs60) (fun _ _ h => h) rfl 10 (by kernel_rfl) hle61 (by kernel_rfl) ?_
    obtain ⟨x62, hr63, h⟩ := h
    refine GT.take 0 rfl (by kernel_rfl) (by kernel_rfl) (by kernel_rfl) rfl (fun _ _ _ h => False.elim h) trivial rfl (OV.load (p := (b5, 0)) rfl rfl hr63) ?_
    refine GT.take 1 rfl (by kernel_rfl) (by kernel_rfl) (by kernel_rfl) rfl (fun _ _ _ h => False.elim h) trivial rfl (OV.fieldAddr (p := (b38, 0)) rfl rfl) ?_
    obtain ⟨x64, hr65, h⟩ := h
    refine GT.take 2 rfl (by kernel_rfl) (by kernel_rfl) (by kernel_rfl) rfl (fun _ _ _ h => False.elim h) trivial rfl (OV.load (p := ((b38, 0).1, (b38, 0).2 + 0)) rfl rfl hr65) ?_
    refine GT.take 3 rfl (by kernel_rfl) (by kernel_rfl) (by kernel_rfl) rfl (fun _ _ _ h => False.elim h) trivial rfl (OV.move (v := u13) rfl) ?_
    refine GT.take 4 rfl (by kernel_rfl) (by kernel_rfl) (by kernel_rfl) rfl (fun _ _ _ h => False.elim h) trivial rfl (OV.fieldAddr (p := (b38, 0)) rfl rfl) ?_
    obtain ⟨x66, hr67, h⟩ := h
    refine GT.take 5 rfl (by kernel_rfl) (by kernel_rfl) (by kernel_rfl) rfl (fun _ _ _ h => False.elim h) trivial rfl (OV.load (p := ((b38, 0).1, (b38, 0).2 + 1)) rfl rfl hr67) ?_
    refine GT.eff 6 rfl (by kernel_rfl) rfl ?_
    refine GL.callU (xv := u13) (vs := [.int .i64 x66]) h trivial rfl rfl rfl ?_
    rintro _ H70 ⟨r69, rfl, h⟩
    obtain ⟨hle68, h⟩ := h
    refine GT.back hle68 ?_
    refine GT.take 7 rfl (by kernel_rfl) (by kernel_rfl) (by kernel_rfl) rfl (fun _ _ _ h => False.elim h) trivial rfl (OV.build (vs := [(0, slv x64), (1, .int .i64 r69)]) (v := .agg (Qa.c (⟨x64, r69⟩ : Qa)).toArray) rfl (fun _ => by kernel_rfl)) ?_
    refine GT.eff 8 rfl (by kernel_rfl) rfl ?_
    refine GL.buildSlice (cs := (Qa.c (⟨x64, r69⟩ : Qa)) ++ []) h trivial rfl (vs := [(0, .agg (Qa.c (⟨x64, r69⟩ : Qa)).toArray)]) rfl ⟨43, fun _ => by kernel_rfl⟩ ?_
    intro b72 H73 h
    obtain ⟨hle71, h⟩ := h
    refine GT.back hle71 ?_
    refine GT.eff 9 rfl (by kernel_rfl) rfl ?_
    refine GL.appendS (s := x62) (s2 := (Sl.of (some (b72, 0)) 1 1)) (zc := Qa.c Qa.zero) (bytes := 32) h trivial rfl rfl rfl ⟨⟨_, _, _, rfl, rfl, rfl, rfl, rfl, rfl⟩⟩ rfl ?_
    intro r75 H76 h
    obtain ⟨hle74, h⟩ := h
    refine GT.back hle74 ?_
    refine GT.done (by kernel_rfl) ?_
    show GL _ _ _ _ _ [_] _ _
    refine GL.store (p := (b5, 0)) (v := slv r75) h trivial rfl rfl rfl rfl ?_
    intro H77 h
    exact GL.ends (fun _ _ hf hs => ⟨_, hs, h⟩)
 refine Spec.mono (h hyy36) fun u78 H79 h => ?_
 obtain ⟨st80, pend81, k82, k83, ⟨rfl, h⟩ | ⟨rfl, h⟩⟩ := h
 ·refine Rf.RK.nrm (P := Tryz.prog) k82 k83 ?_
  refine Rf.GI.nil_to (fun _ _ h => h) ?_
  refine Rf.GI.seq ?_
  refine Rf.GI.seq ?_
  refine Rf.GI.region (fun _ _ h => h) rfl ?_
  obtain ⟨x84, hr85, h⟩ := h
  refine GL.val trivial rfl (OV.load (p := (b7, 0)) rfl rfl hr85) ?_
  refine GL.val trivial rfl (OV.ibin (v := .bool ((x84 : Int) != 0)) rfl rfl rfl) ?_
  refine Rf.GI.nil ?_
  refine Rf.GI.cond (b := (x84 : Int) != 0) rfl (fun hc86 => ?_) (fun hc86 => ?_)
  ·replace h := And.left h hc86
   refine Rf.GI.seq ?_
   obtain ⟨Hs87, hle88, h⟩ := h
   refine Rf.GI.tail (Hs := Hs87) (fun _ _ h => h) rfl 2 (by kernel_rfl) hle88 (by kernel_rfl) ?_
   refine GT.effs [0, 1] (by kernel_rfl) (by simp) (List.forall_mem_cons.2 ⟨⟨_, rfl, rfl, ?_⟩, List.forall_mem_cons.2 ⟨⟨_, rfl, rfl, ?_⟩, fun _ h => by cases h⟩⟩)
   ·replace h := h.1
    obtain ⟨x90, hr91, h⟩ := h
    refine GL.val trivial rfl (OV.load (p := (b7, 0)) rfl rfl hr91) ?_
    obtain ⟨hle89, h⟩ := h
    refine GT.back hle89 ?_
    refine GT.eff 1 rfl (by kernel_rfl) rfl ?_
    refine GL.store (p := (b1, 0)) (v := slv Sl.nil) h trivial rfl rfl rfl rfl ?_
    intro H93 h
    obtain ⟨hle92, h⟩ := h
    refine GT.back hle92 ?_
    refine GT.done (by kernel_rfl) ?_
    show GL _ _ _ _ _ [_] _ _
    refine GL.store (p := (b3, 0)) (v := .int .i64 x90) h trivial rfl rfl rfl rfl ?_
    intro H94 h
    refine Rf.GI.nil ?_
    obtain ⟨Hm95, hle96, h97, hd98, h⟩ := h
    refine Rf.GI.ret (fun _ _ hf hs => ?_)
    refine Rf.QcB hf hs hle96 h97 hd98 ?_
    obtain ⟨x99, hr100, h⟩ := h
    obtain ⟨x101, hr102, h⟩ := h
    exact (fun _ _ hf hs => Qb8 rfl (RV.cell (p := (b1, 0)) rfl rfl hr100) (RV.cell (p := (b3, 0)) rfl rfl hr102) hf hs ⟨x99, x101, rfl, h⟩)
   ·replace h := h.2
    refine GL.store (p := (b1, 0)) (v := slv Sl.nil) h trivial rfl rfl rfl rfl ?_
    intro H104 h
    obtain ⟨hle103, h⟩ := h
    refine GT.back hle103 ?_
    refine GT.eff 0 rfl (by kernel_rfl) rfl ?_
    obtain ⟨x106, hr107, h⟩ := h
    refine GL.val trivial rfl (OV.load (p := (b7, 0)) rfl rfl hr107) ?_
    obtain ⟨hle105, h⟩ := h
    refine GT.back hle105 ?_
    refine GT.done (by kernel_rfl) ?_
    show GL _ _ _ _ _ [_] _ _
    refine GL.store (p := (b3, 0)) (v := .int .i64 x106) h trivial rfl rfl rfl rfl ?_
    intro H108 h
    refine Rf.GI.nil ?_
    obtain ⟨Hm109, hle110, h111, hd112, h⟩ := h
    refine Rf.GI.ret (fun _ _ hf hs => ?_)
    refine Rf.QcB hf hs hle110 h111 hd112 ?_
    obtain ⟨x113, hr114, h⟩ := h
    obtain ⟨x115, hr116, h⟩ := h
    exact (fun _ _ hf hs => Qb8 rfl (RV.cell (p := (b1, 0)) rfl rfl hr114) (RV.cell (p := (b3, 0)) rfl rfl hr116) hf hs ⟨x113, x115, rfl, h⟩)
  ·replace h := And.right h hc86
   refine Rf.GI.skip ?_
   refine Rf.GI.seq ?_
   refine Rf.GI.region (fun _ _ h => h) rfl ?_
   obtain ⟨x117, hr118, h⟩ := h
   refine GL.val trivial rfl (OV.load (p := (b5, 0)) rfl rfl hr118) ?_
   refine GL.call h trivial rfl QaG (vs := [slv x117, .func (.func 49) (List.toArray []) (List.toArray [])]) rfl ?_
   rintro _ H119 ⟨rfl, h⟩
   refine Rf.GI.nil ?_
   refine Rf.GI.seq ?_
   refine Rf.GI.region (fun _ _ h => h) rfl ?_
   refine GL.val trivial rfl (OV.assign (v := slv Sl.nil) rfl) ?_
   refine Rf.GI.nil ?_
   refine Rf.GI.seq ?_
   refine Rf.GI.block ?_
   refine Rf.GI.loop (α := Sl) h (fun x120 => [(8, slv x120), (2, pv (some (b1, 0))), (3, pv (some (b3, 0))), (4, pv (some (b5, 0)))]) ⟨rfl, rfl, rfl, rfl, trivial⟩ ?_
   intro x120 H122 J121 h
   refine Rf.GI.seq ?_
   refine Rf.GI.seq ?_
   refine Rf.GI.region (fun _ _ h => h) rfl ?_
   obtain ⟨x123, hr124, h⟩ := h
   refine GL.val trivial rfl (OV.load (p := (b5, 0)) rfl rfl hr124) ?_
   refine GL.val trivial rfl (OV.lenSl (s := x123) rfl rfl) ?_
   refine GL.val trivial rfl (OV.ibin (v := .bool (decide (((Sl.len x123 : Int) : Int) > 0))) rfl rfl rfl) ?_
   refine Rf.GI.nil ?_
   refine Rf.GI.cond (b := decide (((Sl.len x123 : Int) : Int) > 0)) rfl (fun hc125 => ?_) (fun hc125 => ?_)
   ·replace h := And.left h hc125
    refine Rf.GI.skip ?_
    refine Rf.GI.block ?_
    refine Rf.GI.seq ?_
    refine Rf.GI.region (fun _ _ h => h) rfl ?_
    refine GL.val trivial rfl (OV.assign (v := .int .i64 0) rfl) ?_
    refine GL.val trivial rfl (OV.assign (v := .int .i64 0) rfl) ?_
    refine Rf.GI.nil ?_
    refine Rf.GI.seq ?_
    refine Rf.GI.block ?_
    refine Rf.GI.loop (α := Int × Int) h (fun x126 => [(9, .int .i64 x126.1), (10, .int .i64 x126.2), (2, pv (some (b1, 0))), (3, pv (some (b3, 0))), (4, pv (some (b5, 0))), (8, slv x120)]) ⟨rfl, rfl, rfl, rfl, rfl, rfl, trivial⟩ ?_
    intro x126 H128 J127 h
    refine Rf.GI.seq ?_
    refine Rf.GI.seq ?_
    obtain ⟨J129, h, hR132⟩ := h
    refine Rf.GI.meet (α := Bool) J129 (fun x130 => [(55, .bool x130), (2, pv (some (b1, 0))), (3, pv (some (b3, 0))), (4, pv (some (b5, 0))), (8, slv x120), (9, .int .i64 x126.1), (10, .int .i64 x126.2)]) ?_ ?_
    ·skip
     obtain ⟨Hs133, hle134, h⟩ := h
     refine Rf.GI.any (Hs := Hs133) (fun _ _ h => h) rfl (by kernel_rfl) hle134 ?_
     refine GA.take 0 rfl (by kernel_rfl) (by kernel_rfl) (by kernel_rfl) (fun _ _ _ h => False.elim h) trivial rfl (OV.move (v := .int .i64 x126.1) rfl) ?_
     obtain ⟨x135, hr136, h⟩ := h
     refine GA.take 1 rfl (by kernel_rfl) (by kernel_rfl) (by kernel_rfl) (fun _ _ _ h => False.elim h) trivial rfl (OV.load (p := (b5, 0)) rfl rfl hr136) ?_
     refine GA.take 2 rfl (by kernel_rfl) (by kernel_rfl) (by kernel_rfl) (fun _ _ _ h => False.elim h) trivial rfl (OV.lenSl (s := x135) rfl rfl) ?_
     refine GA.take 3 rfl (by kernel_rfl) (by kernel_rfl) (by kernel_rfl) (fun _ _ _ h => False.elim h) trivial rfl (OV.ibin (v := .bool (decide ((x126.1 : Int) < (Sl.len x135 : Int)))) rfl rfl rfl) ?_
     refine GA.take 4 rfl (by kernel_rfl) (by kernel_rfl) (by kernel_rfl) (fun _ _ _ h => False.elim h) trivial rfl (OV.move (v := .bool (decide ((x126.1 : Int) < (Sl.len x135 : Int)))) rfl) ?_
     rcases Bool.eq_false_or_eq_true (decide ((x126.1 : Int) < (Sl.len x135 : Int))) with hc137 | hc137
     ·replace h := And.left h hc137
      obtain ⟨x138, hr139, h⟩ := h
      refine GA.take 5 rfl (by kernel_rfl) (by kernel_rfl) (by kernel_rfl) (fun _ _ _ h => False.elim h) ⟨_, _, rfl, rfl, hc137⟩ rfl (OV.load (p := (b5, 0)) rfl rfl hr139) ?_
      obtain ⟨p140, ha141, hb142, hc143, hd144, h⟩ := h
      refine GA.take 6 rfl (by kernel_rfl) (by kernel_rfl) (by kernel_rfl) (fun _ _ _ h => False.elim h) ⟨_, _, rfl, rfl, hc137⟩ rfl (OV.indexAddr (s := x138) rfl rfl rfl rfl ha141 hb142 hc143 hd144) ?_
      refine GA.take 7 rfl (by kernel_rfl) (by kernel_rfl) (by kernel_rfl) (fun _ _ _ h => False.elim h) ⟨_, _, rfl, rfl, hc137⟩ rfl (OV.fieldAddr (p := (p140.1, p140.2 + (0 : Int).toNat * 2)) rfl rfl) ?_
      obtain ⟨x145, hr146, h⟩ := h
      refine GA.take 8 rfl (by kernel_rfl) (by kernel_rfl) (by kernel_rfl) (fun _ _ _ h => False.elim h) ⟨_, _, rfl, rfl, hc137⟩ rfl (OV.load (p := ((p140.1, p140.2 + (0 : Int).toNat * 2).1, (p140.1, p140.2 + (0 : Int).toNat * 2).2 + 0)) rfl rfl hr146) ?_
      obtain ⟨x147, hr148, h⟩ := h
      refine GA.take 9 rfl (by kernel_rfl) (by kernel_rfl) (by kernel_rfl) (fun _ _ _ h => False.elim h) ⟨_, _, rfl, rfl, hc137⟩ rfl (OV.load (p := (b5, 0)) rfl rfl hr148) ?_
      refine GA.take 10 rfl (by kernel_rfl) (by kernel_rfl) (by kernel_rfl) (fun _ _ _ h => False.elim h) ⟨_, _, rfl, rfl, hc137⟩ rfl (OV.move (v := .int .i64 x126.1) rfl) ?_
      obtain ⟨p149, ha150, hb151, hc152, hd153, h⟩ := h
      refine GA.take 11 rfl (by kernel_rfl) (by kernel_rfl) (by kernel_rfl) (fun _ _ _ h => False.elim h) ⟨_, _, rfl, rfl, hc137⟩ rfl (OV.indexAddr (s := x147) rfl rfl rfl rfl ha150 hb151 hc152 hd153) ?_
      refine GA.take 12 rfl (by kernel_rfl) (by kernel_rfl) (by kernel_rfl) (fun _ _ _ h => False.elim h) ⟨_, _, rfl, rfl, hc137⟩ rfl (OV.fieldAddr (p := (p149.1, p149.2 + (x126.1 : Int).toNat * 2)) rfl rfl) ?_
      obtain ⟨x154, hr155, h⟩ := h
      refine GA.take 13 rfl (by kernel_rfl) (by kernel_rfl) (by kernel_rfl) (fun _ _ _ h => False.elim h) ⟨_, _, rfl, rfl, hc137⟩ rfl (OV.load (p := ((p149.1, p149.2 + (x126.1 : Int).toNat * 2).1, (p149.1, p149.2 + (x126.1 : Int).toNat * 2).2 + 0)) rfl rfl hr155) ?_
      refine GA.eff 14 rfl (by kernel_rfl) ?_
      refine GL.call h ⟨_, _, rfl, rfl, hc137⟩ rfl Qat (vs := [slv x145, slv x154]) rfl ?_
      rintro _ H158 ⟨r157, rfl, h⟩
      obtain ⟨hle156, h⟩ := h
      refine GA.back hle156 ?_
      refine GA.take 15 rfl (by kernel_rfl) (by kernel_rfl) (by kernel_rfl) (fun _ _ _ h => False.elim h) ⟨_, _, rfl, rfl, hc137⟩ rfl (OV.ibin (v := .bool ((r157 : Int) == 0)) rfl rfl rfl) ?_
      refine GA.take 16 rfl (by kernel_rfl) (by kernel_rfl) (by kernel_rfl) (fun _ _ _ h => False.elim h) trivial rfl (OV.pickT (b := decide ((x126.1 : Int) < (Sl.len x135 : Int))) (v := .bool ((r157 : Int) == 0)) rfl hc137 rfl) ?_
      refine GA.done (by kernel_rfl) ?_
      exact GL.jump (fun _ _ h => h) ((r157 : Int) == 0) h ⟨rfl, rfl, rfl, rfl, rfl, rfl, rfl, trivial⟩
     ·replace h := And.right h hc137
      refine GA.skip 5 rfl (by kernel_rfl) (by kernel_rfl) (by kernel_rfl) (fun _ _ _ h => False.elim h) ⟨_, rfl, .inl ⟨_, rfl, hc137⟩⟩ rfl ?_
      refine GA.skip 6 rfl (by kernel_rfl) (by kernel_rfl) (by kernel_rfl) (fun _ _ _ h => False.elim h) ⟨_, rfl, .inl ⟨_, rfl, hc137⟩⟩ rfl ?_
      refine GA.skip 7 rfl (by kernel_rfl) (by kernel_rfl) (by kernel_rfl) (fun _ _ _ h => False.elim h) ⟨_, rfl, .inl ⟨_, rfl, hc137⟩⟩ rfl ?_
      refine GA.skip 8 rfl (by kernel_rfl) (by kernel_rfl) (by kernel_rfl) (fun _ _ _ h => False.elim h) ⟨_, rfl, .inl ⟨_, rfl, hc137⟩⟩ rfl ?_
      refine GA.skip 9 rfl (by kernel_rfl) (by kernel_rfl) (by kernel_rfl) (fun _ _ _ h => False.elim h) ⟨_, rfl, .inl ⟨_, rfl, hc137⟩⟩ rfl ?_
      refine GA.skip 10 rfl (by kernel_rfl) (by kernel_rfl) (by kernel_rfl) (fun _ _ _ h => False.elim h) ⟨_, rfl, .inl ⟨_, rfl, hc137⟩⟩ rfl ?_
      refine GA.skip 11 rfl (by kernel_rfl) (by kernel_rfl) (by kernel_rfl) (fun _ _ _ h => False.elim h) ⟨_, rfl, .inl ⟨_, rfl, hc137⟩⟩ rfl ?_
      refine GA.skip 12 rfl (by kernel_rfl) (by kernel_rfl) (by kernel_rfl) (fun _ _ _ h => False.elim h) ⟨_, rfl, .inl ⟨_, rfl, hc137⟩⟩ rfl ?_
      refine GA.skip 13 rfl (by kernel_rfl) (by kernel_rfl) (by kernel_rfl) (fun _ _ _ h => False.elim h) ⟨_, rfl, .inl ⟨_, rfl, hc137⟩⟩ rfl ?_
      refine GA.skip 14 rfl (by kernel_rfl) (by kernel_rfl) (by kernel_rfl) (fun _ _ _ h => False.elim h) ⟨_, rfl, .inl ⟨_, rfl, hc137⟩⟩ rfl ?_
      refine GA.skip 15 rfl (by kernel_rfl) (by kernel_rfl) (by kernel_rfl) (fun _ _ _ h => False.elim h) ⟨_, rfl, .inl ⟨_, rfl, hc137⟩⟩ rfl ?_
      refine GA.take 16 rfl (by kernel_rfl) (by kernel_rfl) (by kernel_rfl) (fun _ _ _ h => False.elim h) trivial rfl (OV.pickF (b := decide ((x126.1 : Int) < (Sl.len x135 : Int))) (v := .bool false) rfl hc137 rfl) ?_
      refine GA.done (by kernel_rfl) ?_
      exact GL.jump (fun _ _ h => h) false h ⟨rfl, rfl, rfl, rfl, rfl, rfl, rfl, trivial⟩
    ·intro x130 H131 h
     replace h := hR132 x130 H131 h
     refine Rf.GI.nil ?_
     refine Rf.GI.cond (b := x130) rfl (fun hc159 => ?_) (fun hc159 => ?_)
     ·replace h := And.left h hc159
      refine Rf.GI.skip ?_
      refine Rf.GI.block ?_
      refine Rf.GI.seq ?_
      refine Rf.GI.region (fun _ _ h => h) rfl ?_
      refine GL.val trivial rfl (OV.move (v := .int .i64 x126.2) rfl) ?_
      obtain ⟨x160, hr161, h⟩ := h
      refine GL.val trivial rfl (OV.load (p := (b5, 0)) rfl rfl hr161) ?_
      refine GL.val trivial rfl (OV.move (v := .int .i64 x126.1) rfl) ?_
      obtain ⟨p162, ha163, hb164, hc165, hd166, h⟩ := h
      refine GL.val trivial rfl (OV.indexAddr (s := x160) rfl rfl rfl rfl ha163 hb164 hc165 hd166) ?_
      refine GL.val trivial rfl (OV.fieldAddr (p := (p162.1, p162.2 + (x126.1 : Int).toNat * 2)) rfl rfl) ?_
      obtain ⟨x167, hr168, h⟩ := h
      refine GL.val trivial rfl (OV.load (p := ((p162.1, p162.2 + (x126.1 : Int).toNat * 2).1, (p162.1, p162.2 + (x126.1 : Int).toNat * 2).2 + 1)) rfl rfl hr168) ?_
      refine GL.val trivial rfl (OV.ibin (v := .int .i64 (w .i64 (x126.2 + x167))) rfl rfl rfl) ?_
      refine GL.val trivial rfl (OV.assign (v := .int .i64 (w .i64 (x126.2 + x167))) rfl) ?_
      refine Rf.GI.nil ?_
      refine Rf.GI.region (fun _ _ h => h) rfl ?_
      refine GL.val trivial rfl (OV.move (v := .int .i64 x126.1) rfl) ?_
      refine GL.val trivial rfl (OV.ibin (v := .int .i64 (w .i64 (x126.1 + 1))) rfl rfl rfl) ?_
      refine GL.val trivial rfl (OV.assign (v := .int .i64 (w .i64 (x126.1 + 1))) rfl) ?_
      exact GL.jump (fun _ _ h => h) ((w .i64 (x126.1 + 1)), (w .i64 (x126.2 + x167))) h ⟨rfl, rfl, rfl, rfl, rfl, rfl, trivial⟩
     ·replace h := And.right h hc159
      refine Rf.GI.exit_to (fun _ _ h => h) ?_
      refine Rf.GI.seq ?_
      refine Rf.GI.seq ?_
      refine Rf.GI.region (fun _ _ h => h) rfl ?_
      refine GL.val trivial rfl (OV.move (v := .int .i64 x126.2) rfl) ?_
      refine GL.call h trivial rfl Qfa (vs := [.int .i64 x126.2]) rfl ?_
      rintro _ H170 ⟨r169, rfl, h⟩
      refine Rf.GI.nil ?_
      refine Rf.GI.cond (b := r169) rfl (fun hc171 => ?_) (fun hc171 => ?_)
      ·replace h := And.left h hc171
       refine Rf.GI.seq ?_
       refine Rf.GI.region (fun _ _ h => h) rfl ?_
       refine GL.store (p := (b1, 0)) (v := slv Sl.nil) h trivial rfl rfl rfl rfl ?_
       intro H172 h
       refine GL.store (p := (b3, 0)) (v := .int .i64 80) h trivial rfl rfl rfl rfl ?_
       intro H173 h
       refine Rf.GI.nil ?_
       obtain ⟨Hm174, hle175, h176, hd177, h⟩ := h
       refine Rf.GI.ret (fun _ _ hf hs => ?_)
       refine Rf.QcB hf hs hle175 h176 hd177 ?_
       obtain ⟨x178, hr179, h⟩ := h
       obtain ⟨x180, hr181, h⟩ := h
       exact (fun _ _ hf hs => Qb8 rfl (RV.cell (p := (b1, 0)) rfl rfl hr179) (RV.cell (p := (b3, 0)) rfl rfl hr181) hf hs ⟨x178, x180, rfl, h⟩)
      ·replace h := And.right h hc171
       refine Rf.GI.skip ?_
       obtain ⟨J182, h, hR185⟩ := h
       refine Rf.GI.join (α := Sl) J182 (fun x183 => [(8, slv x183), (2, pv (some (b1, 0))), (3, pv (some (b3, 0))), (4, pv (some (b5, 0))), (9, .int .i64 x126.1)]) ?_ ?_
       ·skip
        refine Rf.GI.seq ?_
        refine Rf.GI.region (fun _ _ h => h) rfl ?_
        refine GL.val trivial rfl (OV.move (v := .int .i64 x126.2) rfl) ?_
        refine GL.val trivial rfl (OV.ibin (v := .bool ((x126.2 : Int) != 0)) rfl rfl rfl) ?_
        refine Rf.GI.nil ?_
        refine Rf.GI.cond (b := (x126.2 : Int) != 0) rfl (fun hc186 => ?_) (fun hc186 => ?_)
        ·replace h := And.left h hc186
         refine Rf.GI.region (fun _ _ h => h) rfl ?_
         refine GL.val trivial rfl (OV.move (v := slv x120) rfl) ?_
         obtain ⟨x187, hr188, h⟩ := h
         refine GL.val trivial rfl (OV.load (p := (b5, 0)) rfl rfl hr188) ?_
         obtain ⟨p189, ha190, hb191, hc192, hd193, h⟩ := h
         refine GL.val trivial rfl (OV.indexAddr (s := x187) rfl rfl rfl rfl ha190 hb191 hc192 hd193) ?_
         refine GL.val trivial rfl (OV.fieldAddr (p := (p189.1, p189.2 + (0 : Int).toNat * 2)) rfl rfl) ?_
         obtain ⟨x194, hr195, h⟩ := h
         refine GL.val trivial rfl (OV.load (p := ((p189.1, p189.2 + (0 : Int).toNat * 2).1, (p189.1, p189.2 + (0 : Int).toNat * 2).2 + 0)) rfl rfl hr195) ?_
         refine GL.call h trivial rfl Qfb (vs := [slv x194]) rfl ?_
         rintro _ H197 ⟨r196, rfl, h⟩
         refine GL.val trivial rfl (OV.move (v := .int .i64 x126.2) rfl) ?_
         refine GL.val trivial rfl (OV.build (vs := [(0, slv r196), (1, .int .i64 x126.2)]) (v := .agg (Qa.c (⟨r196, x126.2⟩ : Qa)).toArray) rfl (fun _ => by kernel_rfl)) ?_
         refine GL.appendLit (s := x120) (ys := (Qa.c (⟨r196, x126.2⟩ : Qa)) ++ []) (zc := Qa.c Qa.zero) (bytes := 32) h trivial rfl (fun _ => trivial) rfl (fun _ => rfl) (fun _ => rfl) (vs := [(0, .agg (Qa.c (⟨r196, x126.2⟩ : Qa)).toArray)]) rfl ⟨43, fun _ => by kernel_rfl⟩ ⟨⟨_, _, _, rfl, rfl, rfl, rfl, rfl, rfl⟩⟩ rfl rfl ?_
         intro _ r198 H199 h
         refine GL.val trivial rfl (OV.assign (v := slv r198) rfl) ?_
         exact GL.jump (fun _ _ h => h) r198 h ⟨rfl, rfl, rfl, rfl, rfl, trivial⟩
        ·replace h := And.right h hc186
         exact Rf.GI.jump (fun _ _ h => h) x120 h ⟨rfl, rfl, rfl, rfl, rfl, trivial⟩
       ·intro x183 H184 h
        replace h := hR185 x183 H184 h
        refine Rf.GI.region (fun _ _ h => h) rfl ?_
        obtain ⟨x200, hr201, h⟩ := h
        refine GL.val trivial rfl (OV.load (p := (b5, 0)) rfl rfl hr201) ?_
        refine GL.val trivial rfl (OV.move (v := .int .i64 x126.1) rfl) ?_
        obtain ⟨h203, h204, h205, h206, t202, h207, h⟩ := h
        refine GL.val trivial rfl (OV.sliceSl (s := x200) h203 h204 h205 h206 h207 rfl rfl rfl rfl rfl rfl rfl (fun h => by first | rfl | cases h) rfl rfl) ?_
        refine GL.store (p := (b5, 0)) (v := slv t202) h trivial rfl rfl rfl rfl ?_
        intro H208 h
        exact GL.jump (fun _ _ h => h) x183 h ⟨rfl, rfl, rfl, rfl, trivial⟩
   ·replace h := And.right h hc125
    refine Rf.GI.exit_to (fun _ _ h => h) ?_
    refine Rf.GI.seq ?_
    refine Rf.GI.region (fun _ _ h => h) rfl ?_
    refine GL.val trivial rfl (OV.move (v := slv x120) rfl) ?_
    refine GL.store (p := (b1, 0)) (v := slv x120) h trivial rfl rfl rfl rfl ?_
    intro H209 h
    refine GL.store (p := (b3, 0)) (v := .int .i64 0) h trivial rfl rfl rfl rfl ?_
    intro H210 h
    refine Rf.GI.nil ?_
    obtain ⟨Hm211, hle212, h213, hd214, h⟩ := h
    refine Rf.GI.ret (fun _ _ hf hs => ?_)
    refine Rf.QcB hf hs hle212 h213 hd214 ?_
    obtain ⟨x215, hr216, h⟩ := h
    obtain ⟨x217, hr218, h⟩ := h
    exact (fun _ _ hf hs => Qb8 rfl (RV.cell (p := (b1, 0)) rfl rfl hr216) (RV.cell (p := (b3, 0)) rfl rfl hr218) hf hs ⟨x215, x217, rfl, h⟩)
 ·refine Rf.RK.ret k82 k83 ?_
  obtain ⟨Hm219, hle220, h221, hd222, h⟩ := h
  refine (fun _ _ hf hs => ?_)
  refine Rf.QcB hf hs hle220 h221 hd222 ?_
  obtain ⟨x223, hr224, h⟩ := h
  obtain ⟨x225, hr226, h⟩ := h
  exact (fun _ _ hf hs => Qb8 rfl (RV.cell (p := (b1, 0)) rfl rfl hr224) (RV.cell (p := (b3, 0)) rfl rfl hr226) hf hs ⟨x223, x225, rfl, h⟩)
def QhU (C : Ctx) (p_n : Int) (K : Int → Heap → Prop) (H : Heap) : Prop :=
 K p_n H
theorem QhJ (C p_n K H) (h : QhU C p_n K H) : Qgt C p_n K H := by
 refine Ye Tryz.func27 rfl Tryz.ntmps27 [(0, .int .i64 p_n)] (Zo (Za (GL.nil (Zo (Zm (Za (GL.nil ?_)))))))
 exact Y1 I3 ⟨p_n, rfl, h⟩
def QgK (C : Ctx) (p_n : Int) (K : Int → Heap → Prop) (H : Heap) : Prop :=
 K (w .i64 (0 - p_n)) H
theorem Qgr (C p_n K H) (h : QgK C p_n K H) : QeY C p_n K H := by
 refine Ye Tryz.func31 rfl Tryz.ntmps31 [(0, .int .i64 p_n)] (Zo (Za (GL.nil (Zo (Zm (Zv (OV.iun (v := .int .i64 (w .i64 (0 - p_n))) rfl rfl) (Za (GL.nil ?_))))))))
 exact Y1 I3 ⟨(w .i64 (0 - p_n)), rfl, h⟩
def QcV (C : Ctx) (p_a : Sl) (p_b : Sl) (K : Bool → Heap → Prop) (H : Heap) : Prop :=
 ift (((Sl.len p_a : Int) : Int) != (Sl.len p_b : Int))
 (K false H)
 (lp (α := Int) 0 H (fun x2 J3 H4 =>
 ift (decide ((x2 : Int) < (Sl.len p_a : Int)))
 (dr H4 fun Hs6 =>
 ixa p_a x2 fun p8 =>
 ldT Hs6 Qb.c (p8.1, p8.2 + (x2 : Int).toNat * 4) fun x13 =>
 ixa p_b x2 fun p15 =>
 ldT Hs6 Qb.c (p15.1, p15.2 + (x2 : Int).toNat * 4) fun x20 =>
 Qaw C x13 x20 (fun r23 H24 =>
 Heap.le Hs6 H24 ∧
 ift (!r23)
 (K false H24)
 (J3 (w .i64 (x2 + 1)) H24)) H4)
 (K true H4)))
theorem QeL (C p_a p_b K H) (h : QcV C p_a p_b K H) : QaH C p_a p_b K H := by
 refine Ye Tryz.func32 rfl Tryz.ntmps32 [(0, slv p_a), (1, slv p_b)] (Zo (Za (GL.nil (GC.seq (Zo (Zm (Zq (Zm (Zq (Zi (.bool (((Sl.len p_a : Int) : Int) != (Sl.len p_b : Int))) (GL.nil (Yd h (fun u1 h => ?_) fun u1 h => ?_))))))))))))
 refine Zo (Za (GL.nil ?_))
 exact Y1 I3 ⟨false, rfl, h⟩
 refine GC.skip (GC.seq (Zo (Za (GL.nil (GC.block (Yp h (fun x2 => [(5, .int .i64 x2), (0, slv p_a), (1, slv p_b)]) ?_))))))
 intro x2 H4 J3 h
 refine GC.seq (Zo (Zm (Zm (Zq (Zi (.bool (decide ((x2 : Int) < (Sl.len p_a : Int)))) (GL.nil (Yd h (fun u5 h => ?_) fun u5 h => ?_)))))))
 refine GC.skip (GC.seq (GC.block (GC.seq ?_)))
 obtain ⟨Hs6, hle7, h⟩ := h
 refine GC.any (Hs := Hs6) (by kernel_rfl) hle7 (Zp 0 rfl Ym (Zp 1 rfl Ym ?_))
 obtain ⟨p8, ha9, hb10, u11, hd12, h⟩ := h
 refine Zp 2 rfl (OV.indexAddr rfl rfl rfl rfl ha9 hb10 u11 hd12) ?_
 obtain ⟨x13, v14, h⟩ := h
 refine Zp 3 rfl (OV.loadT rfl rfl rfl v14) (Zp 4 rfl Ym (Zp 5 rfl Ym ?_))
 obtain ⟨p15, ha16, hb17, u18, hd19, h⟩ := h
 refine Zp 6 rfl (OV.indexAddr rfl rfl rfl rfl ha16 hb17 u18 hd19) ?_
 obtain ⟨x20, v21, h⟩ := h
 refine Zp 7 rfl (OV.loadT rfl rfl rfl v21) (GA.eff 8 rfl (by kernel_rfl) (Zc h Qf8 ?_))
 rintro _ H24 ⟨r23, rfl, h⟩
 obtain ⟨hle22, h⟩ := h
 refine GA.back hle22 (Zp 9 rfl (OV.not rfl) (GA.done (by kernel_rfl) (GL.nil (Yd h (fun u25 h => ?_) fun u25 h => ?_))))
 refine Zo (Za (GL.nil ?_))
 exact Y1 I3 ⟨false, rfl, h⟩
 refine GC.skip_to (fun _ _ h => h) (GC.region (Zm (Zi (.int .i64 (w .i64 (x2 + 1))) (Za ?_))))
 exact Yj I3 (w .i64 (x2 + 1)) h
 refine GC.exit_to (fun _ _ h => h) (Zo (Za (GL.nil ?_)))
 exact Y1 I3 ⟨true, rfl, h⟩
def QeE (C : Ctx) (p_l : Sl) (K : Bool → Heap → Prop) (H : Heap) : Prop :=
 Qf C p_l (.func (.func 54) (List.toArray []) (List.toArray []) : Value) (fun r1 H2 =>
 K (!r1) H2) H
theorem Qgm (C p_l K H) (h : QeE C p_l K H) : QcL C p_l K H := by
 refine Ye Tryz.func33 rfl Tryz.ntmps33 [(0, slv p_l)] (Zo (Za (GL.nil (Zo (Zm (Zc h Q0 ?_))))))
 rintro _ H2 ⟨r1, rfl, h⟩
 refine Zv (OV.not rfl) (Za (GL.nil ?_))
 exact Y1 I3 ⟨(!r1), rfl, h⟩
def Qee (C : Ctx) (p_a : Bool) (p_b : Bool) (K : Int → Heap → Prop) (H : Heap) : Prop :=
 ift (p_a == p_b)
 (K 0 H)
 (ift p_a
 (K (-1) H)
 (K 1 H))
theorem Qf0 (C p_a p_b K H) (h : Qee C p_a p_b K H) : Qc1 C p_a p_b K H := by
 refine Ye Tryz.func34 rfl Tryz.ntmps34 [(0, .bool p_a), (1, .bool p_b)] (Zo (Za (GL.nil (GC.seq (GC.block (Zo (Zm (Zm (Zv (OV.eqlBool rfl rfl rfl) (Za (GL.nil (Yd h (fun u1 h => ?_) fun u1 h => ?_))))))))))))
 refine Zo (Za (GL.nil ?_))
 exact Y1 I3 ⟨0, rfl, h⟩
 refine Zo (Zm (Za (GL.nil (Yd h (fun u2 h => ?_) fun u2 h => ?_))))
 refine Zo (Za (GL.nil ?_))
 exact Y1 I3 ⟨(-1), rfl, h⟩
 refine GC.skip_to (fun _ _ h => h) (Zo (Za (GL.nil ?_)))
 exact Y1 I3 ⟨1, rfl, h⟩
def Qeg (C : Ctx) (p_a : Sl) (p_b : Sl) (K : Int → Heap → Prop) (H : Heap) : Prop :=
 Qd C p_a p_b (.func (.func 56) (List.toArray []) (List.toArray []) : Value) (fun r1 H2 =>
 K r1 H2) H
theorem Qf2 (C p_a p_b K H) (h : Qeg C p_a p_b K H) : QbK C p_a p_b K H := by
 refine Ye Tryz.func35 rfl Tryz.ntmps35 [(0, slv p_a), (1, slv p_b)] (Zo (Za (GL.nil (Zo (Zm (Zm (Zc h Q5 ?_)))))))
 rintro _ H2 ⟨r1, rfl, h⟩
 refine Za (GL.nil ?_)
 exact Y1 I3 ⟨r1, rfl, h⟩
end
end Sx
end
