/-
  Texts of this family, one behind the other: Sh1, Sh2, Sh, FmtI, SrtL, SrkL, SrtT.
-/
import Derived.Test.YtnpkgflmjibkeaaGreatDoorAN1
import Derived.Test.YtnpkgflmjibkeaaGreatDoorProg
import Derived.Shelf.Strconv.Itoa4
import Derived.Shelf.SlSortCmp.NoneTotal
import Derived.Shelf.Sort.Plain
import Derived.Shelf.Slices.In.SortNone
noncomputable section
set_option linter.unusedVariables false
set_option linter.unusedSimpArgs false
set_option maxRecDepth 10000
namespace Sx
section
set_option maxRecDepth 100000
open Go Go.Proofs
structure Qd where
 Rel : Str
 L : Sl
def Qd.c (x : Qd) : List Value := [sv x.Rel, slv x.L]
def Qd.zero : Qd := ⟨[], Sl.nil⟩
structure Qjx where
 Kind : Int
 N : Int
 Row : Qd
structure Qa where
 Kind : Int
 N : Int
 S : Str
 L : Sl
def Qa.c (x : Qa) : List Value := [.int .u8 x.Kind, .int .i64 x.N, sv x.S, slv x.L]
def Qa.zero : Qa := ⟨0, 0, [], Sl.nil⟩
structure Qb where
 Row : Qd
 N : Int
def Qb.c (x : Qb) : List Value := [sv x.Row.Rel, slv x.Row.L, .int .i64 x.N]
def Qb.zero : Qb := ⟨Qd.zero, 0⟩
structure QV where
 rels_ : Option Nat
 done_ : Sl
def QV.c (x : QV) : List Value := [mv x.rels_, slv x.done_]
structure Qc where
 rel_ : Str
 key_ : Str
 row_ : Sl
 undo_ : Value
def Qc.c (x : Qc) : List Value := [sv x.rel_, sv x.key_, slv x.row_, x.undo_]
def Qc.zero : Qc := ⟨[], [], Sl.nil, .nilFunc⟩
structure Qg where
 rel_ : Str
 key_ : Str
def Qg.c (x : Qg) : List Value := [sv x.rel_, sv x.key_]
def Qg.zero : Qg := ⟨[], []⟩
structure Qjl where
 At : Sl
structure Qfr where
 lo_ : Int
 hi_ : Int
theorem QfA : CallOk Tryz.prog 8 := ⟨⟨_, Tryz.func8, rfl, by decide +kernel⟩⟩
theorem Qfa : CallOk Tryz.prog 9 := ⟨⟨_, Tryz.func9, rfl, by decide +kernel⟩⟩
theorem QbA : CallOk Tryz.prog 12 := ⟨⟨_, Tryz.func12, rfl, by decide +kernel⟩⟩
theorem Qaa : CallOk Tryz.prog 13 := ⟨⟨_, Tryz.func13, rfl, by decide +kernel⟩⟩
theorem Q9 : CallOk Tryz.prog 14 := ⟨⟨_, Tryz.func14, rfl, by decide +kernel⟩⟩
theorem Qdj : CallOk Tryz.prog 15 := ⟨⟨_, Tryz.func15, rfl, by decide +kernel⟩⟩
theorem QaZ : CallOk Tryz.prog 17 := ⟨⟨_, Tryz.func17, rfl, by decide +kernel⟩⟩
theorem Qc2 : CallOk Tryz.prog 22 := ⟨⟨_, Tryz.func22, rfl, by decide +kernel⟩⟩
theorem Qef : CallOk Tryz.prog 24 := ⟨⟨_, Tryz.func24, rfl, by decide +kernel⟩⟩
theorem QbY : CallOk Tryz.prog 25 := ⟨⟨_, Tryz.func25, rfl, by decide +kernel⟩⟩
theorem QcB : CallOk Tryz.prog 26 := ⟨⟨_, Tryz.func26, rfl, by decide +kernel⟩⟩
theorem QN : CallOk Tryz.prog 29 := ⟨⟨_, Tryz.func29, rfl, by decide +kernel⟩⟩
theorem QbE : CallOk Tryz.prog 30 := ⟨⟨_, Tryz.func30, rfl, by decide +kernel⟩⟩
theorem QcC : CallOk Tryz.prog 31 := ⟨⟨_, Tryz.func31, rfl, by decide +kernel⟩⟩
theorem QbZ : CallOk Tryz.prog 32 := ⟨⟨_, Tryz.func32, rfl, by decide +kernel⟩⟩
theorem QaD : CallOk Tryz.prog 33 := ⟨⟨_, Tryz.func33, rfl, by decide +kernel⟩⟩
theorem QdV : CallOk Tryz.prog 34 := ⟨⟨_, Tryz.func34, rfl, by decide +kernel⟩⟩
theorem QcQ : CallOk Tryz.prog 35 := ⟨⟨_, Tryz.func35, rfl, by decide +kernel⟩⟩
theorem Q0 : CallOk Tryz.prog 36 := ⟨⟨_, Tryz.func36, rfl, by decide +kernel⟩⟩
theorem Qc3 : CallOk Tryz.prog 37 := ⟨⟨_, Tryz.func37, rfl, by decide +kernel⟩⟩
theorem QdW : CallOk Tryz.prog 38 := ⟨⟨_, Tryz.func38, rfl, by decide +kernel⟩⟩
theorem QdI : CallOk Tryz.prog 39 := ⟨⟨_, Tryz.func39, rfl, by decide +kernel⟩⟩
theorem QeA : CallOk Tryz.prog 40 := ⟨⟨_, Tryz.func40, rfl, by decide +kernel⟩⟩
theorem Qdk : CallOk Tryz.prog 41 := ⟨⟨_, Tryz.func41, rfl, by decide +kernel⟩⟩
theorem Qez : CallOk Tryz.prog 42 := ⟨⟨_, Tryz.func42, rfl, by decide +kernel⟩⟩
theorem Qc1 : CallOk Tryz.prog 43 := ⟨⟨_, Tryz.func43, rfl, by decide +kernel⟩⟩
theorem QaC : CallOk Tryz.prog 44 := ⟨⟨_, Tryz.func44, rfl, by decide +kernel⟩⟩
theorem QaQ : CallOk Tryz.prog 55 := ⟨⟨_, Tryz.func55, rfl, by decide +kernel⟩⟩
theorem QbO : CallOk Tryz.prog 56 := ⟨⟨_, Tryz.func56, rfl, by decide +kernel⟩⟩
theorem Qa3 : CallOk Tryz.prog 60 := ⟨⟨_, Tryz.func60, rfl, by decide +kernel⟩⟩
theorem QbU : CallOk Tryz.prog 63 := ⟨⟨_, Tryz.func63, rfl, by decide +kernel⟩⟩
theorem QeJ : CallOk Tryz.prog 64 := ⟨⟨_, Tryz.func64, rfl, by decide +kernel⟩⟩
theorem Qgc : CallOk Tryz.prog 65 := ⟨⟨_, Tryz.func65, rfl, by decide +kernel⟩⟩
theorem Qei : CallOk Tryz.prog 66 := ⟨⟨_, Tryz.func66, rfl, by decide +kernel⟩⟩
theorem Qcp : CallOk Tryz.prog 67 := ⟨⟨_, Tryz.func67, rfl, by decide +kernel⟩⟩
theorem Qgb : CallOk Tryz.prog 68 := ⟨⟨_, Tryz.func68, rfl, by decide +kernel⟩⟩
theorem Qga : CallOk Tryz.prog 69 := ⟨⟨_, Tryz.func69, rfl, by decide +kernel⟩⟩
theorem Qan : CallOk Tryz.prog 70 := ⟨⟨_, Tryz.func70, rfl, by decide +kernel⟩⟩
theorem Qao : CallOk Tryz.prog 88 := ⟨⟨_, Tryz.func88, rfl, by decide +kernel⟩⟩
theorem QfC : CallOk Tryz.prog 89 := ⟨⟨_, Tryz.func89, rfl, by decide +kernel⟩⟩
theorem QJ : CallOk Tryz.prog 90 := ⟨⟨_, Tryz.func90, rfl, by decide +kernel⟩⟩
theorem Qfe : CallOk Tryz.prog 91 := ⟨⟨_, Tryz.func91, rfl, by decide +kernel⟩⟩
theorem QeB : CallOk Tryz.prog 92 := ⟨⟨_, Tryz.func92, rfl, by decide +kernel⟩⟩
theorem QdJ : CallOk Tryz.prog 93 := ⟨⟨_, Tryz.func93, rfl, by decide +kernel⟩⟩
theorem Qb9 : CallOk Tryz.prog 94 := ⟨⟨_, Tryz.func94, rfl, by decide +kernel⟩⟩
theorem Qfb : CallOk Tryz.prog 95 := ⟨⟨_, Tryz.func95, rfl, by decide +kernel⟩⟩
theorem Qi : CallOk Tryz.prog 96 := ⟨⟨_, Tryz.func96, rfl, by decide +kernel⟩⟩
theorem Qj : CallOk Tryz.prog 97 := ⟨⟨_, Tryz.func97, rfl, by decide +kernel⟩⟩
theorem Qfc : CallOk Tryz.prog 98 := ⟨⟨_, Tryz.func98, rfl, by decide +kernel⟩⟩
theorem Qdh : CallOk Tryz.prog 99 := ⟨⟨_, Tryz.func99, rfl, by decide +kernel⟩⟩
theorem QdH : CallOk Tryz.prog 100 := ⟨⟨_, Tryz.func100, rfl, by decide +kernel⟩⟩
theorem QfD : CallOk Tryz.prog 101 := ⟨⟨_, Tryz.func101, rfl, by decide +kernel⟩⟩
theorem Qcn : CallOk Tryz.prog 102 := ⟨⟨_, Tryz.func102, rfl, by decide +kernel⟩⟩
theorem QaJ : CallOk Tryz.prog 131 := ⟨⟨_, Tryz.func131, rfl, by decide +kernel⟩⟩
theorem QdG : CallOk Tryz.prog 132 := ⟨⟨_, Tryz.func132, rfl, by decide +kernel⟩⟩
theorem Qeg : CallOk Tryz.prog 133 := ⟨⟨_, Tryz.func133, rfl, by decide +kernel⟩⟩
theorem QdF : CallOk Tryz.prog 134 := ⟨⟨_, Tryz.func134, rfl, by decide +kernel⟩⟩
theorem Qfd : CallOk Tryz.prog 135 := ⟨⟨_, Tryz.func135, rfl, by decide +kernel⟩⟩
theorem QfB : CallOk Tryz.prog 136 := ⟨⟨_, Tryz.func136, rfl, by decide +kernel⟩⟩
theorem Qeh : CallOk Tryz.prog 137 := ⟨⟨_, Tryz.func137, rfl, by decide +kernel⟩⟩
theorem Qav : CallOk Tryz.prog 138 := ⟨⟨_, Tryz.func138, rfl, by decide +kernel⟩⟩
theorem Qbs : CallOk Tryz.prog 139 := ⟨⟨_, Tryz.func139, rfl, by decide +kernel⟩⟩
theorem Qb8 : CallOk Tryz.prog 151 := ⟨⟨_, Tryz.func151, rfl, by decide +kernel⟩⟩
theorem QbF : CallOk Tryz.prog 152 := ⟨⟨_, Tryz.func152, rfl, by decide +kernel⟩⟩
theorem Qee : CallOk Tryz.prog 153 := ⟨⟨_, Tryz.func153, rfl, by decide +kernel⟩⟩
theorem Qb7 : CallOk Tryz.prog 154 := ⟨⟨_, Tryz.func154, rfl, by decide +kernel⟩⟩
theorem Qdi : CallOk Tryz.prog 155 := ⟨⟨_, Tryz.func155, rfl, by decide +kernel⟩⟩
theorem Qe9 : CallOk Tryz.prog 156 := ⟨⟨_, Tryz.func156, rfl, by decide +kernel⟩⟩
theorem QbW : CallOk Tryz.prog 157 := ⟨⟨_, Tryz.func157, rfl, by decide +kernel⟩⟩
theorem Q1 : CallOk Tryz.prog 166 := ⟨⟨_, Tryz.func166, rfl, by decide +kernel⟩⟩
theorem Qc0 : CallOk Tryz.prog 167 := ⟨⟨_, Tryz.func167, rfl, by decide +kernel⟩⟩
theorem Qbb : CallOk Tryz.prog 168 := ⟨⟨_, Tryz.func168, rfl, by decide +kernel⟩⟩
theorem QcS : CallOk Tryz.prog 169 := ⟨⟨_, Tryz.func169, rfl, by decide +kernel⟩⟩
theorem QcA : CallOk Tryz.prog 170 := ⟨⟨_, Tryz.func170, rfl, by decide +kernel⟩⟩
theorem QcR : CallOk Tryz.prog 171 := ⟨⟨_, Tryz.func171, rfl, by decide +kernel⟩⟩
theorem Qcz : CallOk Tryz.prog 172 := ⟨⟨_, Tryz.func172, rfl, by decide +kernel⟩⟩
theorem Qco : CallOk Tryz.prog 173 := ⟨⟨_, Tryz.func173, rfl, by decide +kernel⟩⟩
theorem Qb6 : CallOk Tryz.prog 174 := ⟨⟨_, Tryz.func174, rfl, by decide +kernel⟩⟩
theorem QbX : CallOk Tryz.prog 175 := ⟨⟨_, Tryz.func175, rfl, by decide +kernel⟩⟩
theorem Qbz : CallOk Tryz.prog 176 := ⟨⟨_, Tryz.func176, rfl, by decide +kernel⟩⟩
theorem Qaw : CallOk Tryz.prog 182 := ⟨⟨_, Tryz.func182, rfl, by decide +kernel⟩⟩
theorem Q2 : CallOk Tryz.prog 186 := ⟨⟨_, Tryz.func186, rfl, by decide +kernel⟩⟩
theorem QbV : CallOk Tryz.prog 188 := ⟨⟨_, Tryz.func188, rfl, by decide +kernel⟩⟩
theorem Qau : CallOk Tryz.prog 189 := ⟨⟨_, Tryz.func189, rfl, by decide +kernel⟩⟩
theorem Qcm : ExtOk Tryz.prog 158 Extern.AbiNoEscape.same := ⟨⟨_, Tryz.func158, by kernel_rfl, by kernel_rfl, by kernel_rfl, by kernel_rfl⟩⟩
theorem QaW : ExtOk Tryz.prog 195 Extern.BytealgIndexByte.indexByte := ⟨⟨_, Tryz.func195, by kernel_rfl, by kernel_rfl, by kernel_rfl, by kernel_rfl⟩⟩
abbrev tyB : TypeId := 136
abbrev tyE : TypeId := 5
abbrev Bd (bs : Str) : GO := .bld tyB tyE bs
theorem kOk71 : KOk Tryz.prog 71 kp := kPair (by kernel_rfl)
def Q7 (C : Ctx) (K : Bool → Heap → Prop) (H : Heap) : Prop :=
 Spec Tryz.prog C 5 [] H (fun v H2 => ∃ (r0 : Bool), v = .bool r0 ∧ K r0 H2)
def QcJ (C : Ctx) (K : Bool → Heap → Prop) (H : Heap) : Prop :=
 Spec Tryz.prog C 8 [] H (fun v H2 => ∃ (r0 : Bool), v = .bool r0 ∧ K r0 H2)
def Qdv (C : Ctx) (K : Option (Nat × Nat) → Heap → Prop) (H : Heap) : Prop :=
 Spec Tryz.prog C 9 [] H (fun v H2 => ∃ (r0 : Option (Nat × Nat)), v = pv r0 ∧ K r0 H2)
def QE (C : Ctx) (p_l : Option (Nat × Nat)) (K : Int → Heap → Prop) (H : Heap) : Prop :=
 Spec Tryz.prog C 12 [pv p_l] H (fun v H2 => ∃ (r0 : Int), v = .int .i64 r0 ∧ K r0 H2)
theorem QE.gh {C : Ctx} {p_l : Option (Nat × Nat)} {K : Int → Heap → Prop} {H : Heap} (h : QE C p_l (fun r0 H2 => ∃ H0, Gh C H2 H0 ∧ K r0 H0) H) : QE C p_l K H :=
 Spec.gh (Spec.mono h fun _ H2 ⟨r0, hv, H0, hg, hk⟩ => ⟨H0, hg, r0, hv, hk⟩)
def Qy (C : Ctx) (p_l : Option (Nat × Nat)) (p_mark : Int) (K : Sl → Int → Heap → Prop) (H : Heap) : Prop :=
 Spec Tryz.prog C 13 [pv p_l, .int .i64 p_mark] H (fun v H2 => ∃ (r0 : Sl) (r1 : Int), v = .tuple #[slv r0, .int .i64 r1] ∧ K r0 r1 H2)
def Qx (C : Ctx) (p_l : Option (Nat × Nat)) (p_r : Qd) (K : Bool → Int → Heap → Prop) (H : Heap) : Prop :=
 Spec Tryz.prog C 14 [pv p_l, .agg (Qd.c p_r).toArray] H (fun v H2 => ∃ (r0 : Bool) (r1 : Int), v = .tuple #[.bool r0, .int .i64 r1] ∧ K r0 r1 H2)
def Qaq (C : Ctx) (p_l : Option (Nat × Nat)) (p_r : Qd) (K : Bool → Int → Heap → Prop) (H : Heap) : Prop :=
 Spec Tryz.prog C 15 [pv p_l, .agg (Qd.c p_r).toArray] H (fun v H2 => ∃ (r0 : Bool) (r1 : Int), v = .tuple #[.bool r0, .int .i64 r1] ∧ K r0 r1 H2)
def QS (C : Ctx) (p_l : Option (Nat × Nat)) (p_mark : Int) (K : Int → Heap → Prop) (H : Heap) : Prop :=
 Spec Tryz.prog C 17 [pv p_l, .int .i64 p_mark] H (fun v H2 => ∃ (r0 : Int), v = .int .i64 r0 ∧ K r0 H2)
def QaH (C : Ctx) (p_l : Option (Nat × Nat)) (p_rel : Str) (K : Sl → Heap → Prop) (H : Heap) : Prop :=
 Spec Tryz.prog C 22 [pv p_l, sv p_rel] H (fun v H2 => ∃ (r0 : Sl), v = slv r0 ∧ K r0 H2)
def Qbj (C : Ctx) (p_l : Option (Nat × Nat)) (K : Heap → Prop) (H : Heap) : Prop :=
 Spec Tryz.prog C 24 [pv p_l] H (fun v H2 => v = .tuple #[] ∧ K H2)
def Q6 (C : Ctx) (p_l : Option (Nat × Nat)) (p_r : Qd) (K : Bool → Heap → Prop) (H : Heap) : Prop :=
 Spec Tryz.prog C 25 [pv p_l, .agg (Qd.c p_r).toArray] H (fun v H2 => ∃ (r0 : Bool), v = .bool r0 ∧ K r0 H2)
def Qal (C : Ctx) (p_l : Option (Nat × Nat)) (K : Sl → Heap → Prop) (H : Heap) : Prop :=
 Spec Tryz.prog C 26 [pv p_l] H (fun v H2 => ∃ (r0 : Sl), v = slv r0 ∧ K r0 H2)
def QK (C : Ctx) (p_rel : Str) (p_n : Int) (K : Qd → Heap → Prop) (H : Heap) : Prop :=
 Spec Tryz.prog C 29 [sv p_rel, .int .i64 p_n] H (fun v H2 => ∃ (r0 : Qd), v = .agg (Qd.c r0).toArray ∧ K r0 H2)
def Qad (C : Ctx) (p_a : Sl) (p_b : Sl) (K : Bool → Heap → Prop) (H : Heap) : Prop :=
 Spec Tryz.prog C 30 [slv p_a, slv p_b] H (fun v H2 => ∃ (r0 : Bool), v = .bool r0 ∧ K r0 H2)
def Qam (C : Ctx) (p_l : Option (Nat × Nat)) (p_mark : Int) (K : Int → Heap → Prop) (H : Heap) : Prop :=
 Spec Tryz.prog C 31 [pv p_l, .int .i64 p_mark] H (fun v H2 => ∃ (r0 : Int), v = .int .i64 r0 ∧ K r0 H2)
def Qar (C : Ctx) (p_l : Sl) (K : Sl → Heap → Prop) (H : Heap) : Prop :=
 Spec Tryz.prog C 32 [slv p_l] H (fun v H2 => ∃ (r0 : Sl), v = slv r0 ∧ K r0 H2)
def QM (C : Ctx) (p_x : Sl) (p_cmp : Value) (K : Heap → Prop) (H : Heap) : Prop :=
 Spec Tryz.prog C 33 [slv p_x, p_cmp] H (fun v H2 => v = .tuple #[] ∧ K H2)
def Qbf (C : Ctx) (p_a : Qb) (p_b : Qb) (K : Int → Heap → Prop) (H : Heap) : Prop :=
 Spec Tryz.prog C 34 [.agg (Qb.c p_a).toArray, .agg (Qb.c p_b).toArray] H (fun v H2 => ∃ (r0 : Int), v = .int .i64 r0 ∧ K r0 H2)
def Qa6 (C : Ctx) (p_vals : Sl) (K : Int → Heap → Prop) (H : Heap) : Prop :=
 Spec Tryz.prog C 35 [slv p_vals] H (fun v H2 => ∃ (r0 : Int), v = .int .i64 r0 ∧ K r0 H2)
def Qv (C : Ctx) (p_x : Str) (p_y : Str) (K : Int → Heap → Prop) (H : Heap) : Prop :=
 Spec Tryz.prog C 36 [sv p_x, sv p_y] H (fun v H2 => ∃ (r0 : Int), v = .int .i64 r0 ∧ K r0 H2)
def Qbg (C : Ctx) (p_a : Sl) (p_b : Sl) (K : Int → Heap → Prop) (H : Heap) : Prop :=
 Spec Tryz.prog C 37 [slv p_a, slv p_b] H (fun v H2 => ∃ (r0 : Int), v = .int .i64 r0 ∧ K r0 H2)
def Qcw (C : Ctx) (p_l : Sl) (K : Str → Bool → Heap → Prop) (H : Heap) : Prop :=
 Spec Tryz.prog C 38 [slv p_l] H (fun v H2 => ∃ (r0 : Str) (r1 : Bool), v = .tuple #[sv r0, .bool r1] ∧ K r0 r1 H2)
def QbN (C : Ctx) (p_l : Option (Nat × Nat)) (p_rel : Str) (p_key : Str) (p_r : Sl) (K : Heap → Prop) (H : Heap) : Prop :=
 Spec Tryz.prog C 39 [pv p_l, sv p_rel, sv p_key, slv p_r] H (fun v H2 => v = .tuple #[] ∧ K H2)
def Qby (C : Ctx) (v0 : Nat × Nat) (v1 : Nat × Nat) (v2 : Nat × Nat) (K : Heap → Prop) (H : Heap) : Prop :=
 Spec Tryz.prog C 40 [pv (some v0), pv (some v1), pv (some v2)] H (fun v H2 => v = .tuple #[] ∧ K H2)
def Qbn (C : Ctx) (p_l : Option (Nat × Nat)) (p_rel : Str) (p_key : Str) (K : Heap → Prop) (H : Heap) : Prop :=
 Spec Tryz.prog C 41 [pv p_l, sv p_rel, sv p_key] H (fun v H2 => v = .tuple #[] ∧ K H2)
def Qbx (C : Ctx) (v0 : Nat × Nat) (v1 : Nat × Nat) (v2 : Nat × Nat) (v3 : Nat × Nat) (K : Heap → Prop) (H : Heap) : Prop :=
 Spec Tryz.prog C 42 [pv (some v0), pv (some v1), pv (some v2), pv (some v3)] H (fun v H2 => v = .tuple #[] ∧ K H2)
def QaF (C : Ctx) (p_a : Sl) (p_b : Sl) (K : Bool → Heap → Prop) (H : Heap) : Prop :=
 Spec Tryz.prog C 43 [slv p_a, slv p_b] H (fun v H2 => ∃ (r0 : Bool), v = .bool r0 ∧ K r0 H2)
def Ql (C : Ctx) (p_s : Sl) (K : Value → Heap → Prop) (H : Heap) : Prop :=
 Spec Tryz.prog C 44 [slv p_s] H (fun v H2 => ∃ (r0 : Value), v = r0 ∧ K r0 H2)
theorem Ql.gh {C : Ctx} {p_s : Sl} {K : Value → Heap → Prop} {H : Heap} (h : Ql C p_s (fun r0 H2 => ∃ H0, Gh C H2 H0 ∧ K r0 H0) H) : Ql C p_s K H :=
 Spec.gh (Spec.mono h fun _ H2 ⟨r0, hv, H0, hg, hk⟩ => ⟨H0, hg, r0, hv, hk⟩)
def Qw (C : Ctx) (p_x : Sl) (p_cmp : Value) (K : Heap → Prop) (H : Heap) : Prop :=
 Spec Tryz.prog C 55 [slv p_x, p_cmp] H (fun v H2 => v = .tuple #[] ∧ K H2)
def QaG (C : Ctx) (p_x : Sl) (K : Heap → Prop) (H : Heap) : Prop :=
 Spec Tryz.prog C 56 [slv p_x] H (fun v H2 => v = .tuple #[] ∧ K H2)
def QB (C : Ctx) (p_s : Sl) (K : Sl → Heap → Prop) (H : Heap) : Prop :=
 Spec Tryz.prog C 60 [slv p_s] H (fun v H2 => ∃ (r0 : Sl), v = slv r0 ∧ K r0 H2)
def QW (C : Ctx) (p_x : Str) (K : Bool → Heap → Prop) (H : Heap) : Prop :=
 Spec Tryz.prog C 63 [sv p_x] H (fun v H2 => ∃ (r0 : Bool), v = .bool r0 ∧ K r0 H2)
def QcM (C : Ctx) (p_l : Sl) (K : Bool → Heap → Prop) (H : Heap) : Prop :=
 Spec Tryz.prog C 64 [slv p_l] H (fun v H2 => ∃ (r0 : Bool), v = .bool r0 ∧ K r0 H2)
def Qdf (C : Ctx) (p_a : Bool) (p_b : Bool) (K : Int → Heap → Prop) (H : Heap) : Prop :=
 Spec Tryz.prog C 65 [.bool p_a, .bool p_b] H (fun v H2 => ∃ (r0 : Int), v = .int .i64 r0 ∧ K r0 H2)
def Qbr (C : Ctx) (p_a : Sl) (p_b : Sl) (K : Int → Heap → Prop) (H : Heap) : Prop :=
 Spec Tryz.prog C 66 [slv p_a, slv p_b] H (fun v H2 => ∃ (r0 : Int), v = .int .i64 r0 ∧ K r0 H2)
def QQ (C : Ctx) (p_v : Qa) (K : Int → Heap → Prop) (H : Heap) : Prop :=
 Spec Tryz.prog C 67 [.agg (Qa.c p_v).toArray] H (fun v H2 => ∃ (r0 : Int), v = .int .i64 r0 ∧ K r0 H2)
theorem QQ.gh {C : Ctx} {p_v : Qa} {K : Int → Heap → Prop} {H : Heap} (h : QQ C p_v (fun r0 H2 => ∃ H0, Gh C H2 H0 ∧ K r0 H0) H) : QQ C p_v K H :=
 Spec.gh (Spec.mono h fun _ H2 ⟨r0, hv, H0, hg, hk⟩ => ⟨H0, hg, r0, hv, hk⟩)
def Qa7 (C : Ctx) (p_v : Qa) (K : Str → Heap → Prop) (H : Heap) : Prop :=
 Spec Tryz.prog C 68 [.agg (Qa.c p_v).toArray] H (fun v H2 => ∃ (r0 : Str), v = sv r0 ∧ K r0 H2)
theorem Qa7.gh {C : Ctx} {p_v : Qa} {K : Str → Heap → Prop} {H : Heap} (h : Qa7 C p_v (fun r0 H2 => ∃ H0, Gh C H2 H0 ∧ K r0 H0) H) : Qa7 C p_v K H :=
 Spec.gh (Spec.mono h fun _ H2 ⟨r0, hv, H0, hg, hk⟩ => ⟨H0, hg, r0, hv, hk⟩)
def QY (C : Ctx) (p_a : Qa) (p_b : Qa) (K : Bool → Heap → Prop) (H : Heap) : Prop :=
 Spec Tryz.prog C 69 [.agg (Qa.c p_a).toArray, .agg (Qa.c p_b).toArray] H (fun v H2 => ∃ (r0 : Bool), v = .bool r0 ∧ K r0 H2)
theorem QY.gh {C : Ctx} {p_a : Qa} {p_b : Qa} {K : Bool → Heap → Prop} {H : Heap} (h : QY C p_a p_b (fun r0 H2 => ∃ H0, Gh C H2 H0 ∧ K r0 H0) H) : QY C p_a p_b K H :=
 Spec.gh (Spec.mono h fun _ H2 ⟨r0, hv, H0, hg, hk⟩ => ⟨H0, hg, r0, hv, hk⟩)
def Qat (C : Ctx) (p_yield : Value) (v0 : Nat × Nat) (K : Heap → Prop) (H : Heap) : Prop :=
 Spec Tryz.prog C 70 [p_yield, pv (some v0)] H (fun v H2 => v = .tuple #[] ∧ K H2)
def Qq (C : Ctx) (p_s : Sl) (p_f : Value) (K : Bool → Heap → Prop) (H : Heap) : Prop :=
 Spec Tryz.prog C 88 [slv p_s, p_f] H (fun v H2 => ∃ (r0 : Bool), v = .bool r0 ∧ K r0 H2)
def Qag (C : Ctx) (p_v : Qa) (K : Bool → Heap → Prop) (H : Heap) : Prop :=
 Spec Tryz.prog C 89 [.agg (Qa.c p_v).toArray] H (fun v H2 => ∃ (r0 : Bool), v = .bool r0 ∧ K r0 H2)
theorem Qag.gh {C : Ctx} {p_v : Qa} {K : Bool → Heap → Prop} {H : Heap} (h : Qag C p_v (fun r0 H2 => ∃ H0, Gh C H2 H0 ∧ K r0 H0) H) : Qag C p_v K H :=
 Spec.gh (Spec.mono h fun _ H2 ⟨r0, hv, H0, hg, hk⟩ => ⟨H0, hg, r0, hv, hk⟩)
def Qe (C : Ctx) (p_s1 : Sl) (p_s2 : Sl) (p_cmp : Value) (K : Int → Heap → Prop) (H : Heap) : Prop :=
 Spec Tryz.prog C 90 [slv p_s1, slv p_s2, p_cmp] H (fun v H2 => ∃ (r0 : Int), v = .int .i64 r0 ∧ K r0 H2)
theorem Qe.gh {C : Ctx} {p_s1 : Sl} {p_s2 : Sl} {p_cmp : Value} {K : Int → Heap → Prop} {H : Heap} (h : Qe C p_s1 p_s2 p_cmp (fun r0 H2 => ∃ H0, Gh C H2 H0 ∧ K r0 H0) H) : Qe C p_s1 p_s2 p_cmp K H :=
 Spec.gh (Spec.mono h fun _ H2 ⟨r0, hv, H0, hg, hk⟩ => ⟨H0, hg, r0, hv, hk⟩)
def Qas (C : Ctx) (p_x : Qa) (p_y : Qa) (K : Int → Heap → Prop) (H : Heap) : Prop :=
 Spec Tryz.prog C 91 [.agg (Qa.c p_x).toArray, .agg (Qa.c p_y).toArray] H (fun v H2 => ∃ (r0 : Int), v = .int .i64 r0 ∧ K r0 H2)
theorem Qas.gh {C : Ctx} {p_x : Qa} {p_y : Qa} {K : Int → Heap → Prop} {H : Heap} (h : Qas C p_x p_y (fun r0 H2 => ∃ H0, Gh C H2 H0 ∧ K r0 H0) H) : Qas C p_x p_y K H :=
 Spec.gh (Spec.mono h fun _ H2 ⟨r0, hv, H0, hg, hk⟩ => ⟨H0, hg, r0, hv, hk⟩)
def Qz (C : Ctx) (p_v : Qa) (p_w : Qa) (K : Int → Heap → Prop) (H : Heap) : Prop :=
 Spec Tryz.prog C 92 [.agg (Qa.c p_v).toArray, .agg (Qa.c p_w).toArray] H (fun v H2 => ∃ (r0 : Int), v = .int .i64 r0 ∧ K r0 H2)
theorem Qz.gh {C : Ctx} {p_v : Qa} {p_w : Qa} {K : Int → Heap → Prop} {H : Heap} (h : Qz C p_v p_w (fun r0 H2 => ∃ H0, Gh C H2 H0 ∧ K r0 H0) H) : Qz C p_v p_w K H :=
 Spec.gh (Spec.mono h fun _ H2 ⟨r0, hv, H0, hg, hk⟩ => ⟨H0, hg, r0, hv, hk⟩)
def QR (C : Ctx) (p_v : Qa) (p_most : Int) (K : Int → Heap → Prop) (H : Heap) : Prop :=
 Spec Tryz.prog C 93 [.agg (Qa.c p_v).toArray, .int .i64 p_most] H (fun v H2 => ∃ (r0 : Int), v = .int .i64 r0 ∧ K r0 H2)
theorem QR.gh {C : Ctx} {p_v : Qa} {p_most : Int} {K : Int → Heap → Prop} {H : Heap} (h : QR C p_v p_most (fun r0 H2 => ∃ H0, Gh C H2 H0 ∧ K r0 H0) H) : QR C p_v p_most K H :=
 Spec.gh (Spec.mono h fun _ H2 ⟨r0, hv, H0, hg, hk⟩ => ⟨H0, hg, r0, hv, hk⟩)
def Qu (C : Ctx) (p_v : Qa) (K : Bool → Bool → Heap → Prop) (H : Heap) : Prop :=
 Spec Tryz.prog C 94 [.agg (Qa.c p_v).toArray] H (fun v H2 => ∃ (r0 : Bool) (r1 : Bool), v = .tuple #[.bool r0, .bool r1] ∧ K r0 r1 H2)
theorem Qu.gh {C : Ctx} {p_v : Qa} {K : Bool → Bool → Heap → Prop} {H : Heap} (h : Qu C p_v (fun r0 r1 H2 => ∃ H0, Gh C H2 H0 ∧ K r0 r1 H0) H) : Qu C p_v K H :=
 Spec.gh (Spec.mono h fun _ H2 ⟨r0, r1, hv, H0, hg, hk⟩ => ⟨H0, hg, r0, r1, hv, hk⟩)
def Qck (C : Ctx) (p_l : Sl) (v0 : Nat × Nat) (v1 : Nat × Nat) (K : Heap → Prop) (H : Heap) : Prop :=
 Spec Tryz.prog C 95 [slv p_l, pv (some v0), pv (some v1)] H (fun v H2 => v = .tuple #[] ∧ K H2)
def Qf (C : Ctx) (p_b : Option (Nat × Nat)) (p_c : Int) (K : Value → Heap → Prop) (H : Heap) : Prop :=
 Spec Tryz.prog C 96 [pv p_b, .int .u8 p_c] H (fun v H2 => ∃ (r0 : Value), v = r0 ∧ K r0 H2)
theorem Qf.gh {C : Ctx} {p_b : Option (Nat × Nat)} {p_c : Int} {K : Value → Heap → Prop} {H : Heap} (h : Qf C p_b p_c (fun r0 H2 => ∃ H0, Gh C H2 H0 ∧ K r0 H0) H) : Qf C p_b p_c K H :=
 Spec.gh (Spec.mono h fun _ H2 ⟨r0, hv, H0, hg, hk⟩ => ⟨H0, hg, r0, hv, hk⟩)
def Qh (C : Ctx) (p_b : Option (Nat × Nat)) (p_s : Str) (K : Int → Value → Heap → Prop) (H : Heap) : Prop :=
 Spec Tryz.prog C 97 [pv p_b, sv p_s] H (fun v H2 => ∃ (r0 : Int) (r1 : Value), v = .tuple #[.int .i64 r0, r1] ∧ K r0 r1 H2)
theorem Qh.gh {C : Ctx} {p_b : Option (Nat × Nat)} {p_s : Str} {K : Int → Value → Heap → Prop} {H : Heap} (h : Qh C p_b p_s (fun r0 r1 H2 => ∃ H0, Gh C H2 H0 ∧ K r0 r1 H0) H) : Qh C p_b p_s K H :=
 Spec.gh (Spec.mono h fun _ H2 ⟨r0, r1, hv, H0, hg, hk⟩ => ⟨H0, hg, r0, r1, hv, hk⟩)
def QaV (C : Ctx) (p_v : Qa) (v0 : Nat × Nat) (v1 : Nat × Nat) (K : Heap → Prop) (H : Heap) : Prop :=
 Spec Tryz.prog C 98 [.agg (Qa.c p_v).toArray, pv (some v0), pv (some v1)] H (fun v H2 => v = .tuple #[] ∧ K H2)
def QaT (C : Ctx) (p_b : Bool) (K : Str → Heap → Prop) (H : Heap) : Prop :=
 Spec Tryz.prog C 99 [.bool p_b] H (fun v H2 => ∃ (r0 : Str), v = sv r0 ∧ K r0 H2)
def QbS (C : Ctx) (p_i : Int) (p_base : Int) (K : Str → Heap → Prop) (H : Heap) : Prop :=
 Spec Tryz.prog C 100 [.int .i64 p_i, .int .i64 p_base] H (fun v H2 => ∃ (r0 : Str), v = sv r0 ∧ K r0 H2)
def QcN (C : Ctx) (p_b : Option (Nat × Nat)) (p_s : Str) (K : Heap → Prop) (H : Heap) : Prop :=
 Spec Tryz.prog C 101 [pv p_b, sv p_s] H (fun v H2 => v = .tuple #[] ∧ K H2)
def Qp (C : Ctx) (p_b : Option (Nat × Nat)) (K : Str → Heap → Prop) (H : Heap) : Prop :=
 Spec Tryz.prog C 102 [pv p_b] H (fun v H2 => ∃ (r0 : Str), v = sv r0 ∧ K r0 H2)
theorem Qp.gh {C : Ctx} {p_b : Option (Nat × Nat)} {K : Str → Heap → Prop} {H : Heap} (h : Qp C p_b (fun r0 H2 => ∃ H0, Gh C H2 H0 ∧ K r0 H0) H) : Qp C p_b K H :=
 Spec.gh (Spec.mono h fun _ H2 ⟨r0, hv, H0, hg, hk⟩ => ⟨H0, hg, r0, hv, hk⟩)
def Qt (C : Ctx) (p_s : Sl) (p_f : Value) (K : Int → Heap → Prop) (H : Heap) : Prop :=
 Spec Tryz.prog C 131 [slv p_s, p_f] H (fun v H2 => ∃ (r0 : Int), v = .int .i64 r0 ∧ K r0 H2)
def Qa2 (C : Ctx) (p_x : Int) (p_y : Int) (K : Int → Heap → Prop) (H : Heap) : Prop :=
 Spec Tryz.prog C 132 [.int .u8 p_x, .int .u8 p_y] H (fun v H2 => ∃ (r0 : Int), v = .int .i64 r0 ∧ K r0 H2)
def QZ (C : Ctx) (p_a : Str) (p_b : Str) (K : Int → Heap → Prop) (H : Heap) : Prop :=
 Spec Tryz.prog C 133 [sv p_a, sv p_b] H (fun v H2 => ∃ (r0 : Int), v = .int .i64 r0 ∧ K r0 H2)
theorem QZ.gh {C : Ctx} {p_a : Str} {p_b : Str} {K : Int → Heap → Prop} {H : Heap} (h : QZ C p_a p_b (fun r0 H2 => ∃ H0, Gh C H2 H0 ∧ K r0 H0) H) : QZ C p_a p_b K H :=
 Spec.gh (Spec.mono h fun _ H2 ⟨r0, hv, H0, hg, hk⟩ => ⟨H0, hg, r0, hv, hk⟩)
def Qa1 (C : Ctx) (p_x : Int) (p_y : Int) (K : Int → Heap → Prop) (H : Heap) : Prop :=
 Spec Tryz.prog C 134 [.int .i64 p_x, .int .i64 p_y] H (fun v H2 => ∃ (r0 : Int), v = .int .i64 r0 ∧ K r0 H2)
def Qcl (C : Ctx) (p_s : Str) (K : Int → Bool → Heap → Prop) (H : Heap) : Prop :=
 Spec Tryz.prog C 135 [sv p_s] H (fun v H2 => ∃ (r0 : Int) (r1 : Bool), v = .tuple #[.int .i64 r0, .bool r1] ∧ K r0 r1 H2)
def QcK (C : Ctx) (p_s : Str) (p_sep : Str) (K : Str → Str → Bool → Heap → Prop) (H : Heap) : Prop :=
 Spec Tryz.prog C 136 [sv p_s, sv p_sep] H (fun v H2 => ∃ (r0 : Str) (r1 : Str) (r2 : Bool), v = .tuple #[sv r0, sv r1, .bool r2] ∧ K r0 r1 r2 H2)
def Qa8 (C : Ctx) (p_s : Str) (K : Bool → Heap → Prop) (H : Heap) : Prop :=
 Spec Tryz.prog C 137 [sv p_s] H (fun v H2 => ∃ (r0 : Bool), v = .bool r0 ∧ K r0 H2)
def QC (C : Ctx) (p_b : Option (Nat × Nat)) (K : Heap → Prop) (H : Heap) : Prop :=
 Spec Tryz.prog C 138 [pv p_b] H (fun v H2 => v = .tuple #[] ∧ K H2)
def Qak (C : Ctx) (p_b : Bool) (K : Str → Heap → Prop) (H : Heap) : Prop :=
 Spec Tryz.prog C 139 [.bool p_b] H (fun v H2 => ∃ (r0 : Str), v = sv r0 ∧ K r0 H2)
def QaP (C : Ctx) (p_x : Int) (K : Bool → Heap → Prop) (H : Heap) : Prop :=
 Spec Tryz.prog C 151 [.int .u8 p_x] H (fun v H2 => ∃ (r0 : Bool), v = .bool r0 ∧ K r0 H2)
def Qae (C : Ctx) (p_s : Str) (p_prefix : Str) (K : Bool → Heap → Prop) (H : Heap) : Prop :=
 Spec Tryz.prog C 152 [sv p_s, sv p_prefix] H (fun v H2 => ∃ (r0 : Bool), v = .bool r0 ∧ K r0 H2)
def Qbi (C : Ctx) (p_x : Int) (p_y : Int) (K : Int → Heap → Prop) (H : Heap) : Prop :=
 Spec Tryz.prog C 153 [.int .i64 p_x, .int .i64 p_y] H (fun v H2 => ∃ (r0 : Int), v = .int .i64 r0 ∧ K r0 H2)
def QaO (C : Ctx) (p_x : Int) (K : Bool → Heap → Prop) (H : Heap) : Prop :=
 Spec Tryz.prog C 154 [.int .i64 p_x] H (fun v H2 => ∃ (r0 : Bool), v = .bool r0 ∧ K r0 H2)
def QaU (C : Ctx) (p_s : Str) (p_prefix : Str) (K : Str → Heap → Prop) (H : Heap) : Prop :=
 Spec Tryz.prog C 155 [sv p_s, sv p_prefix] H (fun v H2 => ∃ (r0 : Str), v = sv r0 ∧ K r0 H2)
def Q5 (C : Ctx) (p_s : Str) (p_cutset : Str) (K : Str → Heap → Prop) (H : Heap) : Prop :=
 Spec Tryz.prog C 156 [sv p_s, sv p_cutset] H (fun v H2 => ∃ (r0 : Str), v = sv r0 ∧ K r0 H2)
theorem Q5.gh {C : Ctx} {p_s : Str} {p_cutset : Str} {K : Str → Heap → Prop} {H : Heap} (h : Q5 C p_s p_cutset (fun r0 H2 => ∃ H0, Gh C H2 H0 ∧ K r0 H0) H) : Q5 C p_s p_cutset K H :=
 Spec.gh (Spec.mono h fun _ H2 ⟨r0, hv, H0, hg, hk⟩ => ⟨H0, hg, r0, hv, hk⟩)
def QaR (C : Ctx) (p_s : Str) (p_sep : Str) (K : Str → Str → Bool → Heap → Prop) (H : Heap) : Prop :=
 Spec Tryz.prog C 157 [sv p_s, sv p_sep] H (fun v H2 => ∃ (r0 : Str) (r1 : Str) (r2 : Bool), v = .tuple #[sv r0, sv r1, .bool r2] ∧ K r0 r1 r2 H2)
def Qs (C : Ctx) (p_s : Str) (p_prefix : Str) (K : Bool → Heap → Prop) (H : Heap) : Prop :=
 Spec Tryz.prog C 166 [sv p_s, sv p_prefix] H (fun v H2 => ∃ (r0 : Bool), v = .bool r0 ∧ K r0 H2)
def Qbe (C : Ctx) (p_x : Int) (K : Bool → Heap → Prop) (H : Heap) : Prop :=
 Spec Tryz.prog C 167 [.int .i64 p_x] H (fun v H2 => ∃ (r0 : Bool), v = .bool r0 ∧ K r0 H2)
def QX (C : Ctx) (p_s : Str) (p_prefix : Str) (K : Str → Heap → Prop) (H : Heap) : Prop :=
 Spec Tryz.prog C 168 [sv p_s, sv p_prefix] H (fun v H2 => ∃ (r0 : Str), v = sv r0 ∧ K r0 H2)
def Qc7 (C : Ctx) (p_s : Str) (p_c : Int) (K : Str → Heap → Prop) (H : Heap) : Prop :=
 Spec Tryz.prog C 169 [sv p_s, .int .u8 p_c] H (fun v H2 => ∃ (r0 : Str), v = sv r0 ∧ K r0 H2)
def QcL (C : Ctx) (p_s : Str) (p_c : Int) (K : Str → Heap → Prop) (H : Heap) : Prop :=
 Spec Tryz.prog C 170 [sv p_s, .int .u8 p_c] H (fun v H2 => ∃ (r0 : Str), v = sv r0 ∧ K r0 H2)
def Qr (C : Ctx) (p_chars : Str) (K : List Value → Bool → Heap → Prop) (H : Heap) : Prop :=
 Spec Tryz.prog C 171 [sv p_chars] H (fun v H2 => ∃ (r0 : List Value) (r1 : Bool), v = .tuple #[.agg (List.toArray r0), .bool r1] ∧ K r0 r1 H2)
theorem Qr.gh {C : Ctx} {p_chars : Str} {K : List Value → Bool → Heap → Prop} {H : Heap} (h : Qr C p_chars (fun r0 r1 H2 => ∃ H0, Gh C H2 H0 ∧ K r0 r1 H0) H) : Qr C p_chars K H :=
 Spec.gh (Spec.mono h fun _ H2 ⟨r0, r1, hv, H0, hg, hk⟩ => ⟨H0, hg, r0, r1, hv, hk⟩)
def Qaf (C : Ctx) (p_s : Str) (p_as : Option (Nat × Nat)) (K : Str → Heap → Prop) (H : Heap) : Prop :=
 Spec Tryz.prog C 172 [sv p_s, pv p_as] H (fun v H2 => ∃ (r0 : Str), v = sv r0 ∧ K r0 H2)
def Q8 (C : Ctx) (p_s : Str) (p_as : Option (Nat × Nat)) (K : Str → Heap → Prop) (H : Heap) : Prop :=
 Spec Tryz.prog C 173 [sv p_s, pv p_as] H (fun v H2 => ∃ (r0 : Str), v = sv r0 ∧ K r0 H2)
def Qcj (C : Ctx) (p_s : Str) (p_cutset : Str) (K : Str → Heap → Prop) (H : Heap) : Prop :=
 Spec Tryz.prog C 174 [sv p_s, sv p_cutset] H (fun v H2 => ∃ (r0 : Str), v = sv r0 ∧ K r0 H2)
def Qb5 (C : Ctx) (p_s : Str) (p_cutset : Str) (K : Str → Heap → Prop) (H : Heap) : Prop :=
 Spec Tryz.prog C 175 [sv p_s, sv p_cutset] H (fun v H2 => ∃ (r0 : Str), v = sv r0 ∧ K r0 H2)
def QP (C : Ctx) (p_s : Str) (p_substr : Str) (K : Int → Heap → Prop) (H : Heap) : Prop :=
 Spec Tryz.prog C 176 [sv p_s, sv p_substr] H (fun v H2 => ∃ (r0 : Int), v = .int .i64 r0 ∧ K r0 H2)
def QD (C : Ctx) (p_as : Option (Nat × Nat)) (p_c : Int) (K : Bool → Heap → Prop) (H : Heap) : Prop :=
 Spec Tryz.prog C 182 [pv p_as, .int .u8 p_c] H (fun v H2 => ∃ (r0 : Bool), v = .bool r0 ∧ K r0 H2)
def QI (C : Ctx) (p_s : Str) (p_c : Int) (K : Int → Heap → Prop) (H : Heap) : Prop :=
 Spec Tryz.prog C 186 [sv p_s, .int .u8 p_c] H (fun v H2 => ∃ (r0 : Int), v = .int .i64 r0 ∧ K r0 H2)
def Qb4 (C : Ctx) (p_n : Int) (K : Int → Heap → Prop) (H : Heap) : Prop :=
 Spec Tryz.prog C 188 [.int .i64 p_n] H (fun v H2 => ∃ (r0 : Int), v = .int .i64 r0 ∧ K r0 H2)
def QaB (C : Ctx) (p_s : Str) (p_sep : Str) (K : Int → Heap → Prop) (H : Heap) : Prop :=
 Spec Tryz.prog C 189 [sv p_s, sv p_sep] H (fun v H2 => ∃ (r0 : Int), v = .int .i64 r0 ∧ K r0 H2)
def Qce (C : Ctx) (K : Bool → Heap → Prop) (H : Heap) : Prop :=
 Qx C none (⟨[], Sl.nil⟩ : Qd) (fun r1 r2 H3 =>
 Qaq C none (⟨[], Sl.nil⟩ : Qd) (fun r4 r5 H6 =>
 Qy C none 0 (fun r7 r8 H9 =>
 Qbj C none (fun H10 =>
 Qdv C (fun r11 H12 =>
 nw ((Qa.c (⟨0, 0, [], Sl.nil⟩ : Qa)) ++ []) (fun b13 H14 =>
 Qx C r11 (⟨[114], (Sl.of (some (b13, 0)) 1 1)⟩ : Qd) (fun r15 r16 H17 =>
 Qy C r11 1 (fun r18 r19 H20 =>
 Qy C r11 (-1) (fun r21 r22 H23 =>
 jn (α := Bool) (fun b26 H32 =>
 jn (α := Bool) (fun b33 H39 =>
 jn (α := Bool) (fun b40 H46 =>
 jn (α := Bool) (fun b47 H53 =>
 jn (α := Bool) (fun b54 H60 =>
 jn (α := Bool) (fun b64 H70 =>
 jn (α := Bool) (fun b71 H77 =>
 jn (α := Bool) (fun b78 H84 =>
 K b78 H84)
 (fun J79 => ift b71
 (QcJ C (fun r82 H83 =>
 J79 r82 H83) H77)
 (J79 false H77)))
 (fun J72 => ift b64
 (QS C r11 1 (fun r75 H76 =>
 J72 ((r75 : Int) == 1) H76) H70)
 (J72 false H70)))
 (fun J65 => ift (((b54 && ((r16 : Int) == 4)) && ((r19 : Int) == 1)) && ((r22 : Int) == 1))
 (QS C r11 0 (fun r68 H69 =>
 J65 ((r68 : Int) == 0) H69) H60)
 (J65 false H60)))
 (fun J55 => ift b47
 (Qal C none (fun r58 H59 =>
 J55 (((Sl.len r58 : Int) : Int) == 0) H59) H53)
 (J55 false H53)))
 (fun J48 => ift b40
 (QaH C none [] (fun r51 H52 =>
 J48 (((Sl.len r51 : Int) : Int) == 0) H52) H46)
 (J48 false H46)))
 (fun J41 => ift b33
 (Q6 C none (⟨[], Sl.nil⟩ : Qd) (fun r44 H45 =>
 J41 (!r44) H45) H39)
 (J41 false H39)))
 (fun J34 => ift b26
 (QE C none (fun r37 H38 =>
 J34 ((r37 : Int) == 0) H38) H32)
 (J34 false H32)))
 (fun J27 => ift ((((r2 : Int) == 2) && ((r5 : Int) == 2)) && ((r8 : Int) == 2))
 (QS C none 0 (fun r30 H31 =>
 J27 ((r30 : Int) == 2) H31) H23)
 (J27 false H23))) H20) H17) H14) H12) H10) H9) H6) H3) H
theorem Qd4 (C : Ctx) (K : Bool → Heap → Prop) (H : Heap) (h : Qce C  K H) : Q7 C  K H := by
 refine Spec.enter Tryz.func5 rfl Tryz.ntmps5 rfl (GC.sub [] trivial (Zo (Za (GL.nil (Zo (Za (GL.nil (Zo (Zm (Zv (OV.build (vs := []) (v := .agg (Qd.c (⟨[], Sl.nil⟩ : Qd)).toArray) rfl (fun _ => by kernel_rfl)) (Zc h Q9 ?_)))))))))))
 rintro _ H3 ⟨r1, r2, rfl, h⟩
 refine Zm (Yv (.bool r1) rfl rfl (Yv (.int .i64 r2) rfl rfl (Za (Za (GL.nil (Zo (Zm (Zv (OV.build (vs := []) (v := .agg (Qd.c (⟨[], Sl.nil⟩ : Qd)).toArray) rfl (fun _ => by kernel_rfl)) (Zc h Qdj ?_)))))))))
 rintro _ H6 ⟨r4, r5, rfl, h⟩
 refine Zm (Yv (.bool r4) rfl rfl (Yv (.int .i64 r5) rfl rfl (Za (Za (GL.nil (Zo (Zm (Zc h Qaa ?_))))))))
 rintro _ H9 ⟨r7, r8, rfl, h⟩
 refine Zm (Yv (slv r7) rfl rfl (Yv (.int .i64 r8) rfl rfl (Za (Za (GL.nil (Zo (Zm (Zc h Qef ?_))))))))
 rintro _ H10 ⟨rfl, h⟩
 refine GL.nil (Zo (Zc h Qfa ?_))
 rintro _ H12 ⟨r11, rfl, h⟩
 refine Za (GL.nil (Zo (Zm (Zv (OV.build (vs := []) (v := .agg (Qa.c (⟨0, 0, [], Sl.nil⟩ : Qa)).toArray) rfl (fun _ => by kernel_rfl)) (GL.buildSlice (cs := (Qa.c (⟨0, 0, [], Sl.nil⟩ : Qa)) ++ []) h trivial rfl (vs := [(0, .agg (Qa.c (⟨0, 0, [], Sl.nil⟩ : Qa)).toArray)]) rfl ⟨56, fun _ => by kernel_rfl⟩ ?_)))))
 intro b13 H14 h
 refine Zv (OV.build (vs := [(0, sv [114]), (1, slv (Sl.of (some (b13, 0)) 1 1))]) (v := .agg (Qd.c (⟨[114], (Sl.of (some (b13, 0)) 1 1)⟩ : Qd)).toArray) rfl (fun _ => by kernel_rfl)) (Zc h Q9 ?_)
 rintro _ H17 ⟨r15, r16, rfl, h⟩
 refine Zm (Yv (.bool r15) rfl rfl (Yv (.int .i64 r16) rfl rfl (Za (Za (GL.nil (Zo (Zm (Zc h Qaa ?_))))))))
 rintro _ H20 ⟨r18, r19, rfl, h⟩
 refine Zm (Yv (slv r18) rfl rfl (Yv (.int .i64 r19) rfl rfl (Za (Za (GL.nil (Zo (Zm (Zc h Qaa ?_))))))))
 rintro _ H23 ⟨r21, r22, rfl, h⟩
 refine Zm (Yv (slv r21) rfl rfl (Yv (.int .i64 r22) rfl rfl (Za (Za (GL.nil (Zo (Zm (Zi (.bool ((r2 : Int) == 2)) (Zm (GL.cut0 3 [(58, .bool (((r2 : Int) == 2) && ((r5 : Int) == 2))), (1, pv none), (7, .int .i64 r8), (8, pv r11), (10, .int .i64 r16), (12, .int .i64 r19), (14, .int .i64 r22)] ?_ ?_))))))))))
 rcases Zb ((r2 : Int) == 2) with u24 | u24
 refine Zu u24 Ym (Zu u24 (OV.ibin (v := .bool ((r5 : Int) == 2)) rfl rfl rfl) (Zt u24 ?_))
 exact GL.jump0 (fun _ _ h => h) () rfl ⟨(by rw [u24]; rfl), rfl, rfl, rfl, rfl, rfl, rfl, trivial⟩
 refine Zk u24 (Zk u24 (Zn u24 ?_))
 exact GL.jump0 (fun _ _ h => h) () rfl ⟨(by rw [u24]; rfl), rfl, rfl, rfl, rfl, rfl, rfl, trivial⟩
 refine Zm (GL.cut0 3 [(62, .bool ((((r2 : Int) == 2) && ((r5 : Int) == 2)) && ((r8 : Int) == 2))), (1, pv none), (8, pv r11), (10, .int .i64 r16), (12, .int .i64 r19), (14, .int .i64 r22)] ?_ ?_)
 rcases Zb (((r2 : Int) == 2) && ((r5 : Int) == 2)) with u25 | u25
 refine Zu u25 Ym (Zu u25 (OV.ibin (v := .bool ((r8 : Int) == 2)) rfl rfl rfl) (Zt u25 ?_))
 exact GL.jump0 (fun _ _ h => h) () rfl ⟨(by rw [u25]; rfl), rfl, rfl, rfl, rfl, rfl, trivial⟩
 refine Zk u25 (Zk u25 (Zn u25 ?_))
 exact GL.jump0 (fun _ _ h => h) () rfl ⟨(by rw [u25]; rfl), rfl, rfl, rfl, rfl, rfl, trivial⟩
 refine Zm ?_
 obtain ⟨J27, h, hR28⟩ := h
 refine GL.cut (α := Bool) 4 J27 (fun b26 => [(67, .bool b26), (1, pv none), (8, pv r11), (10, .int .i64 r16), (12, .int .i64 r19), (14, .int .i64 r22)]) ?_ ?_
 rcases h.em with ⟨u29, h⟩ | ⟨u29, h⟩
 refine Zu u29 Ym (GL.call h (Yt u29) rfl QaZ (vs := [pv none, .int .i64 0]) rfl ?_)
 rintro _ H31 ⟨r30, rfl, h⟩
 refine Zu u29 (OV.ibin (v := .bool ((r30 : Int) == 2)) rfl rfl rfl) (Zt u29 ?_)
 exact Yj I3 ((r30 : Int) == 2) h
 refine Zk u29 (Zk u29 (Zk u29 (Zn u29 ?_)))
 exact Yj I3 false h
 intro b26 H32 h
 replace h := hR28 b26 H32 h
 refine Zm ?_
 obtain ⟨J34, h, hR35⟩ := h
 refine GL.cut (α := Bool) 4 J34 (fun b33 => [(72, .bool b33), (1, pv none), (8, pv r11), (10, .int .i64 r16), (12, .int .i64 r19), (14, .int .i64 r22)]) ?_ ?_
 rcases h.em with ⟨u36, h⟩ | ⟨u36, h⟩
 refine Zu u36 Ym (GL.call h (Yt u36) rfl QbA (vs := [pv none]) rfl ?_)
 rintro _ H38 ⟨r37, rfl, h⟩
 refine Zu u36 (OV.ibin (v := .bool ((r37 : Int) == 0)) rfl rfl rfl) (Zt u36 ?_)
 exact Yj I3 ((r37 : Int) == 0) h
 refine Zk u36 (Zk u36 (Zk u36 (Zn u36 ?_)))
 exact Yj I3 false h
 intro b33 H39 h
 replace h := hR35 b33 H39 h
 refine Zm ?_
 obtain ⟨J41, h, hR42⟩ := h
 refine GL.cut (α := Bool) 5 J41 (fun b40 => [(78, .bool b40), (1, pv none), (8, pv r11), (10, .int .i64 r16), (12, .int .i64 r19), (14, .int .i64 r22)]) ?_ ?_
 rcases h.em with ⟨u43, h⟩ | ⟨u43, h⟩
 refine Zu u43 Ym (Zu u43 (OV.build (vs := []) (v := .agg (Qd.c (⟨[], Sl.nil⟩ : Qd)).toArray) rfl (fun _ => by kernel_rfl)) (GL.call h (Yt u43) rfl QbY (vs := [pv none, .agg (Qd.c (⟨[], Sl.nil⟩ : Qd)).toArray]) rfl ?_))
 rintro _ H45 ⟨r44, rfl, h⟩
 refine Zu u43 (OV.not rfl) (Zt u43 ?_)
 exact Yj I3 (!r44) h
 refine Zk u43 (Zk u43 (Zk u43 (Zk u43 (Zn u43 ?_))))
 exact Yj I3 false h
 intro b40 H46 h
 replace h := hR42 b40 H46 h
 refine Zm ?_
 obtain ⟨J48, h, hR49⟩ := h
 refine GL.cut (α := Bool) 5 J48 (fun b47 => [(84, .bool b47), (1, pv none), (8, pv r11), (10, .int .i64 r16), (12, .int .i64 r19), (14, .int .i64 r22)]) ?_ ?_
 rcases h.em with ⟨u50, h⟩ | ⟨u50, h⟩
 refine Zu u50 Ym (GL.call h (Yt u50) rfl Qc2 (vs := [pv none, sv []]) rfl ?_)
 rintro _ H52 ⟨r51, rfl, h⟩
 refine Zu u50 (OV.lenSl rfl rfl) (Zu u50 (OV.ibin (v := .bool (((Sl.len r51 : Int) : Int) == 0)) rfl rfl rfl) (Zt u50 ?_))
 exact Yj I3 (((Sl.len r51 : Int) : Int) == 0) h
 refine Zk u50 (Zk u50 (Zk u50 (Zk u50 (Zn u50 ?_))))
 exact Yj I3 false h
 intro b47 H53 h
 replace h := hR49 b47 H53 h
 refine Zm ?_
 obtain ⟨J55, h, hR56⟩ := h
 refine GL.cut (α := Bool) 5 J55 (fun b54 => [(90, .bool b54), (8, pv r11), (10, .int .i64 r16), (12, .int .i64 r19), (14, .int .i64 r22)]) ?_ ?_
 rcases h.em with ⟨u57, h⟩ | ⟨u57, h⟩
 refine Zu u57 Ym (GL.call h (Yt u57) rfl QcB (vs := [pv none]) rfl ?_)
 rintro _ H59 ⟨r58, rfl, h⟩
 refine Zu u57 (OV.lenSl rfl rfl) (Zu u57 (OV.ibin (v := .bool (((Sl.len r58 : Int) : Int) == 0)) rfl rfl rfl) (Zt u57 ?_))
 exact Yj I3 (((Sl.len r58 : Int) : Int) == 0) h
 refine Zk u57 (Zk u57 (Zk u57 (Zk u57 (Zn u57 ?_))))
 exact Yj I3 false h
 intro b54 H60 h
 replace h := hR56 b54 H60 h
 refine Zm (GL.cut0 3 [(94, .bool (b54 && ((r16 : Int) == 4))), (8, pv r11), (12, .int .i64 r19), (14, .int .i64 r22)] ?_ ?_)
 rcases Bool.eq_false_or_eq_true b54 with u61 | u61
 refine Zu u61 Ym (Zu u61 (OV.ibin (v := .bool ((r16 : Int) == 4)) rfl rfl rfl) (Zt u61 ?_))
 exact GL.jump0 (fun _ _ h => h) () rfl ⟨(by rw [u61]; rfl), rfl, rfl, rfl, trivial⟩
 refine Zk u61 (Zk u61 (Zn u61 ?_))
 exact GL.jump0 (fun _ _ h => h) () rfl ⟨(by rw [u61]; rfl), rfl, rfl, rfl, trivial⟩
 refine Zm (GL.cut0 3 [(98, .bool ((b54 && ((r16 : Int) == 4)) && ((r19 : Int) == 1))), (8, pv r11), (14, .int .i64 r22)] ?_ ?_)
 rcases Zb (b54 && ((r16 : Int) == 4)) with u62 | u62
 refine Zu u62 Ym (Zu u62 (OV.ibin (v := .bool ((r19 : Int) == 1)) rfl rfl rfl) (Zt u62 ?_))
 exact GL.jump0 (fun _ _ h => h) () rfl ⟨(by rw [u62]; rfl), rfl, rfl, trivial⟩
 refine Zk u62 (Zk u62 (Zn u62 ?_))
 exact GL.jump0 (fun _ _ h => h) () rfl ⟨(by rw [u62]; rfl), rfl, rfl, trivial⟩
 refine Zm (GL.cut0 3 [(102, .bool (((b54 && ((r16 : Int) == 4)) && ((r19 : Int) == 1)) && ((r22 : Int) == 1))), (8, pv r11)] ?_ ?_)
 rcases Zb ((b54 && ((r16 : Int) == 4)) && ((r19 : Int) == 1)) with u63 | u63
 refine Zu u63 Ym (Zu u63 (OV.ibin (v := .bool ((r22 : Int) == 1)) rfl rfl rfl) (Zt u63 ?_))
 exact GL.jump0 (fun _ _ h => h) () rfl ⟨(by rw [u63]; rfl), rfl, trivial⟩
 refine Zk u63 (Zk u63 (Zn u63 ?_))
 exact GL.jump0 (fun _ _ h => h) () rfl ⟨(by rw [u63]; rfl), rfl, trivial⟩
 refine Zm ?_
 obtain ⟨J65, h, hR66⟩ := h
 refine GL.cut (α := Bool) 4 J65 (fun b64 => [(107, .bool b64), (8, pv r11)]) ?_ ?_
 rcases h.em with ⟨u67, h⟩ | ⟨u67, h⟩
 refine Zu u67 Ym (GL.call h (Yt u67) rfl QaZ (vs := [pv r11, .int .i64 0]) rfl ?_)
 rintro _ H69 ⟨r68, rfl, h⟩
 refine Zu u67 (OV.ibin (v := .bool ((r68 : Int) == 0)) rfl rfl rfl) (Zt u67 ?_)
 exact Yj I3 ((r68 : Int) == 0) h
 refine Zk u67 (Zk u67 (Zk u67 (Zn u67 ?_)))
 exact Yj I3 false h
 intro b64 H70 h
 replace h := hR66 b64 H70 h
 refine Zm ?_
 obtain ⟨J72, h, hR73⟩ := h
 refine GL.cut (α := Bool) 4 J72 (fun b71 => [(112, .bool b71)]) ?_ ?_
 rcases h.em with ⟨u74, h⟩ | ⟨u74, h⟩
 refine Zu u74 Ym (GL.call h (Yt u74) rfl QaZ (vs := [pv r11, .int .i64 1]) rfl ?_)
 rintro _ H76 ⟨r75, rfl, h⟩
 refine Zu u74 (OV.ibin (v := .bool ((r75 : Int) == 1)) rfl rfl rfl) (Zt u74 ?_)
 exact Yj I3 ((r75 : Int) == 1) h
 refine Zk u74 (Zk u74 (Zk u74 (Zn u74 ?_)))
 exact Yj I3 false h
 intro b71 H77 h
 replace h := hR73 b71 H77 h
 refine Zm ?_
 obtain ⟨J79, h, hR80⟩ := h
 refine GL.cut (α := Bool) 2 J79 (fun b78 => [(115, .bool b78)]) ?_ ?_
 rcases h.em with ⟨u81, h⟩ | ⟨u81, h⟩
 refine GL.call h (Yt u81) rfl QfA (vs := []) rfl ?_
 rintro _ H83 ⟨r82, rfl, h⟩
 refine Zt u81 ?_
 exact Yj I3 r82 h
 refine Zk u81 (Zn u81 ?_)
 exact Yj I3 false h
 intro b78 H84 h
 replace h := hR80 b78 H84 h
 refine Za (GL.nil ?_)
 exact Y1 I3 ⟨b78, rfl, h⟩
def QdL (C : Ctx) (K : Bool → Heap → Prop) (H : Heap) : Prop :=
 Qdv C (fun r1 H2 =>
 QK C [114] 1 (fun r3 H4 =>
 Qx C r1 r3 (fun r5 r6 H7 =>
 QK C [114] 2 (fun r8 H9 =>
 Qx C r1 r8 (fun r10 r11 H12 =>
 QK C [114] 1 (fun r13 H14 =>
 Qx C r1 r13 (fun r15 r16 H17 =>
 QK C [114] 1 (fun r18 H19 =>
 Qaq C r1 r18 (fun r20 r21 H22 =>
 QK C [115] 1 (fun r23 H24 =>
 Qx C r1 r23 (fun r25 r26 H27 =>
 Qy C r1 2 (fun r28 r29 H30 =>
 Qy C r1 0 (fun r31 r32 H33 =>
 jn (α := Bool) (fun b45 H51 =>
 ift b45
 (K false H51)
 (QK C [114] 1 (fun r53 H54 =>
 QK C [115] 1 (fun r55 H56 =>
 nw ((Qb.c (⟨r53, (-1)⟩ : Qb)) ++ (Qb.c (⟨r55, 1⟩ : Qb)) ++ []) (fun b57 H58 =>
 Qad C r28 (Sl.of (some (b57, 0)) 2 2) (fun r59 H60 =>
 jn (α := Bool) (fun b61 H73 =>
 ift b61
 (K false H73)
 (QS C r1 2 (fun r75 H76 =>
 jn (α := Bool) (fun b77 H83 =>
 jn (α := Bool) (fun b84 H90 =>
 jn (α := Bool) (fun b91 H99 =>
 jn (α := Bool) (fun b100 H108 =>
 jn (α := Bool) (fun b109 H115 =>
 K b109 H115)
 (fun J110 => ift b100
 (QE C r1 (fun r113 H114 =>
 J110 ((r113 : Int) == 2) H114) H108)
 (J110 false H108)))
 (fun J101 => ift b91
 (QK C [115] 1 (fun r104 H105 =>
 Q6 C r1 r104 (fun r106 H107 =>
 J101 (!r106) H107) H105) H99)
 (J101 false H99)))
 (fun J92 => ift b84
 (QK C [114] 1 (fun r95 H96 =>
 Q6 C r1 r95 (fun r97 H98 =>
 J92 r97 H98) H96) H90)
 (J92 false H90)))
 (fun J85 => ift b77
 (Qal C r1 (fun r88 H89 =>
 J85 (((Sl.len r88 : Int) : Int) == 1) H89) H83)
 (J85 false H83)))
 (fun J78 => ift ((r75 : Int) == 0)
 (QaH C r1 [114] (fun r81 H82 =>
 J78 (((Sl.len r81 : Int) : Int) == 2) H82) H76)
 (J78 false H76))) H73))
 (fun J62 => ift (!r59)
 (J62 true H60)
 (QK C [114] 2 (fun r65 H66 =>
 QK C [115] 1 (fun r67 H68 =>
 nw ((Qb.c (⟨r65, 1⟩ : Qb)) ++ (Qb.c (⟨r67, 1⟩ : Qb)) ++ []) (fun b69 H70 =>
 Qad C r31 (Sl.of (some (b69, 0)) 2 2) (fun r71 H72 =>
 J62 (!r71) H72) H70) H68) H66) H60))) H58) H56) H54) H51))
 (fun J46 => ift ((((((((((((!r5) || (!r10)) || r15) || (!r20)) || (!r25)) || ((r6 : Int) != 0)) || ((r11 : Int) != 0)) || ((r16 : Int) != 0)) || ((r21 : Int) != 0)) || ((r26 : Int) != 0)) || ((r29 : Int) != 0)) || ((r32 : Int) != 0))
 (J46 true H33)
 (QE C r1 (fun r49 H50 =>
 J46 ((r49 : Int) != 4) H50) H33))) H30) H27) H24) H22) H19) H17) H14) H12) H9) H7) H4) H2) H
theorem Qft (C : Ctx) (K : Bool → Heap → Prop) (H : Heap) (h : QdL C  K H) : QcJ C  K H := by
 refine Spec.enter Tryz.func8 rfl Tryz.ntmps8 rfl (GC.sub [] trivial (Zo (Za (GL.nil (Zo (Zc h Qfa ?_))))))
 rintro _ H2 ⟨r1, rfl, h⟩
 refine Za (GL.nil (Zo (Zm (Zc h QN ?_))))
 rintro _ H4 ⟨r3, rfl, h⟩
 refine Zc h Q9 ?_
 rintro _ H7 ⟨r5, r6, rfl, h⟩
 refine Zm (Yv (.bool r5) rfl rfl (Yv (.int .i64 r6) rfl rfl (Za (Za (GL.nil (Zo (Zm (Zc h QN ?_))))))))
 rintro _ H9 ⟨r8, rfl, h⟩
 refine Zc h Q9 ?_
 rintro _ H12 ⟨r10, r11, rfl, h⟩
 refine Zm (Yv (.bool r10) rfl rfl (Yv (.int .i64 r11) rfl rfl (Za (Za (GL.nil (Zo (Zm (Zc h QN ?_))))))))
 rintro _ H14 ⟨r13, rfl, h⟩
 refine Zc h Q9 ?_
 rintro _ H17 ⟨r15, r16, rfl, h⟩
 refine Zm (Yv (.bool r15) rfl rfl (Yv (.int .i64 r16) rfl rfl (Za (Za (GL.nil (Zo (Zm (Zc h QN ?_))))))))
 rintro _ H19 ⟨r18, rfl, h⟩
 refine Zc h Qdj ?_
 rintro _ H22 ⟨r20, r21, rfl, h⟩
 refine Zm (Yv (.bool r20) rfl rfl (Yv (.int .i64 r21) rfl rfl (Za (Za (GL.nil (Zo (Zm (Zc h QN ?_))))))))
 rintro _ H24 ⟨r23, rfl, h⟩
 refine Zc h Q9 ?_
 rintro _ H27 ⟨r25, r26, rfl, h⟩
 refine Zm (Yv (.bool r25) rfl rfl (Yv (.int .i64 r26) rfl rfl (Za (Za (GL.nil (Zo (Zm (Zc h Qaa ?_))))))))
 rintro _ H30 ⟨r28, r29, rfl, h⟩
 refine Zm (Yv (slv r28) rfl rfl (Yv (.int .i64 r29) rfl rfl (Za (Za (GL.nil (Zo (Zm (Zc h Qaa ?_))))))))
 rintro _ H33 ⟨r31, r32, rfl, h⟩
 refine Zm (Yv (slv r31) rfl rfl (Yv (.int .i64 r32) rfl rfl (Za (Za (GL.nil (GC.seq (Zo (Zm (Zv (OV.not rfl) (Zm (GL.cut0 3 [(62, .bool ((!r5) || (!r10))), (1, pv r1), (3, .int .i64 r6), (5, .int .i64 r11), (6, .bool r15), (7, .int .i64 r16), (8, .bool r20), (9, .int .i64 r21), (10, .bool r25), (11, .int .i64 r26), (12, slv r28), (13, .int .i64 r29), (14, slv r31), (15, .int .i64 r32)] ?_ ?_)))))))))))
 rcases Zb (!r5) with u34 | u34
 refine Zk u34 (Zk u34 (Zt u34 ?_))
 exact GL.jump0 (fun _ _ h => h) () rfl ⟨(by rw [u34]; rfl), rfl, rfl, rfl, rfl, rfl, rfl, rfl, rfl, rfl, rfl, rfl, rfl, rfl, trivial⟩
 refine Zu u34 Ym (Zu u34 (OV.not rfl) (Zn u34 ?_))
 exact GL.jump0 (fun _ _ h => h) () rfl ⟨(by rw [u34]; rfl), rfl, rfl, rfl, rfl, rfl, rfl, rfl, rfl, rfl, rfl, rfl, rfl, rfl, trivial⟩
 refine Zm (GL.cut0 2 [(65, .bool (((!r5) || (!r10)) || r15)), (1, pv r1), (3, .int .i64 r6), (5, .int .i64 r11), (7, .int .i64 r16), (8, .bool r20), (9, .int .i64 r21), (10, .bool r25), (11, .int .i64 r26), (12, slv r28), (13, .int .i64 r29), (14, slv r31), (15, .int .i64 r32)] ?_ ?_)
 rcases Zb ((!r5) || (!r10)) with u35 | u35
 refine Zk u35 (Zt u35 ?_)
 exact GL.jump0 (fun _ _ h => h) () rfl ⟨(by rw [u35]; rfl), rfl, rfl, rfl, rfl, rfl, rfl, rfl, rfl, rfl, rfl, rfl, rfl, trivial⟩
 refine Zu u35 Ym (Zn u35 ?_)
 exact GL.jump0 (fun _ _ h => h) () rfl ⟨(by rw [u35]; rfl), rfl, rfl, rfl, rfl, rfl, rfl, rfl, rfl, rfl, rfl, rfl, rfl, trivial⟩
 refine Zm (GL.cut0 3 [(69, .bool ((((!r5) || (!r10)) || r15) || (!r20))), (1, pv r1), (3, .int .i64 r6), (5, .int .i64 r11), (7, .int .i64 r16), (9, .int .i64 r21), (10, .bool r25), (11, .int .i64 r26), (12, slv r28), (13, .int .i64 r29), (14, slv r31), (15, .int .i64 r32)] ?_ ?_)
 rcases Zb (((!r5) || (!r10)) || r15) with u36 | u36
 refine Zk u36 (Zk u36 (Zt u36 ?_))
 exact GL.jump0 (fun _ _ h => h) () rfl ⟨(by rw [u36]; rfl), rfl, rfl, rfl, rfl, rfl, rfl, rfl, rfl, rfl, rfl, rfl, trivial⟩
 refine Zu u36 Ym (Zu u36 (OV.not rfl) (Zn u36 ?_))
 exact GL.jump0 (fun _ _ h => h) () rfl ⟨(by rw [u36]; rfl), rfl, rfl, rfl, rfl, rfl, rfl, rfl, rfl, rfl, rfl, rfl, trivial⟩
 refine Zm (GL.cut0 3 [(73, .bool (((((!r5) || (!r10)) || r15) || (!r20)) || (!r25))), (1, pv r1), (3, .int .i64 r6), (5, .int .i64 r11), (7, .int .i64 r16), (9, .int .i64 r21), (11, .int .i64 r26), (12, slv r28), (13, .int .i64 r29), (14, slv r31), (15, .int .i64 r32)] ?_ ?_)
 rcases Zb ((((!r5) || (!r10)) || r15) || (!r20)) with u37 | u37
 refine Zk u37 (Zk u37 (Zt u37 ?_))
 exact GL.jump0 (fun _ _ h => h) () rfl ⟨(by rw [u37]; rfl), rfl, rfl, rfl, rfl, rfl, rfl, rfl, rfl, rfl, rfl, trivial⟩
 refine Zu u37 Ym (Zu u37 (OV.not rfl) (Zn u37 ?_))
 exact GL.jump0 (fun _ _ h => h) () rfl ⟨(by rw [u37]; rfl), rfl, rfl, rfl, rfl, rfl, rfl, rfl, rfl, rfl, rfl, trivial⟩
 refine Zm (GL.cut0 3 [(77, .bool ((((((!r5) || (!r10)) || r15) || (!r20)) || (!r25)) || ((r6 : Int) != 0))), (1, pv r1), (5, .int .i64 r11), (7, .int .i64 r16), (9, .int .i64 r21), (11, .int .i64 r26), (12, slv r28), (13, .int .i64 r29), (14, slv r31), (15, .int .i64 r32)] ?_ ?_)
 rcases Zb (((((!r5) || (!r10)) || r15) || (!r20)) || (!r25)) with u38 | u38
 refine Zk u38 (Zk u38 (Zt u38 ?_))
 exact GL.jump0 (fun _ _ h => h) () rfl ⟨(by rw [u38]; rfl), rfl, rfl, rfl, rfl, rfl, rfl, rfl, rfl, rfl, trivial⟩
 refine Zu u38 Ym (Zu u38 (OV.ibin (v := .bool ((r6 : Int) != 0)) rfl rfl rfl) (Zn u38 ?_))
 exact GL.jump0 (fun _ _ h => h) () rfl ⟨(by rw [u38]; rfl), rfl, rfl, rfl, rfl, rfl, rfl, rfl, rfl, rfl, trivial⟩
 refine Zm (GL.cut0 3 [(81, .bool (((((((!r5) || (!r10)) || r15) || (!r20)) || (!r25)) || ((r6 : Int) != 0)) || ((r11 : Int) != 0))), (1, pv r1), (7, .int .i64 r16), (9, .int .i64 r21), (11, .int .i64 r26), (12, slv r28), (13, .int .i64 r29), (14, slv r31), (15, .int .i64 r32)] ?_ ?_)
 rcases Zb ((((((!r5) || (!r10)) || r15) || (!r20)) || (!r25)) || ((r6 : Int) != 0)) with u39 | u39
 refine Zk u39 (Zk u39 (Zt u39 ?_))
 exact GL.jump0 (fun _ _ h => h) () rfl ⟨(by rw [u39]; rfl), rfl, rfl, rfl, rfl, rfl, rfl, rfl, rfl, trivial⟩
 refine Zu u39 Ym (Zu u39 (OV.ibin (v := .bool ((r11 : Int) != 0)) rfl rfl rfl) (Zn u39 ?_))
 exact GL.jump0 (fun _ _ h => h) () rfl ⟨(by rw [u39]; rfl), rfl, rfl, rfl, rfl, rfl, rfl, rfl, rfl, trivial⟩
 refine Zm (GL.cut0 3 [(85, .bool ((((((((!r5) || (!r10)) || r15) || (!r20)) || (!r25)) || ((r6 : Int) != 0)) || ((r11 : Int) != 0)) || ((r16 : Int) != 0))), (1, pv r1), (9, .int .i64 r21), (11, .int .i64 r26), (12, slv r28), (13, .int .i64 r29), (14, slv r31), (15, .int .i64 r32)] ?_ ?_)
 rcases Zb (((((((!r5) || (!r10)) || r15) || (!r20)) || (!r25)) || ((r6 : Int) != 0)) || ((r11 : Int) != 0)) with u40 | u40
 refine Zk u40 (Zk u40 (Zt u40 ?_))
 exact GL.jump0 (fun _ _ h => h) () rfl ⟨(by rw [u40]; rfl), rfl, rfl, rfl, rfl, rfl, rfl, rfl, trivial⟩
 refine Zu u40 Ym (Zu u40 (OV.ibin (v := .bool ((r16 : Int) != 0)) rfl rfl rfl) (Zn u40 ?_))
 exact GL.jump0 (fun _ _ h => h) () rfl ⟨(by rw [u40]; rfl), rfl, rfl, rfl, rfl, rfl, rfl, rfl, trivial⟩
 refine Zm (GL.cut0 3 [(89, .bool (((((((((!r5) || (!r10)) || r15) || (!r20)) || (!r25)) || ((r6 : Int) != 0)) || ((r11 : Int) != 0)) || ((r16 : Int) != 0)) || ((r21 : Int) != 0))), (1, pv r1), (11, .int .i64 r26), (12, slv r28), (13, .int .i64 r29), (14, slv r31), (15, .int .i64 r32)] ?_ ?_)
 rcases Zb ((((((((!r5) || (!r10)) || r15) || (!r20)) || (!r25)) || ((r6 : Int) != 0)) || ((r11 : Int) != 0)) || ((r16 : Int) != 0)) with u41 | u41
 refine Zk u41 (Zk u41 (Zt u41 ?_))
 exact GL.jump0 (fun _ _ h => h) () rfl ⟨(by rw [u41]; rfl), rfl, rfl, rfl, rfl, rfl, rfl, trivial⟩
 refine Zu u41 Ym (Zu u41 (OV.ibin (v := .bool ((r21 : Int) != 0)) rfl rfl rfl) (Zn u41 ?_))
 exact GL.jump0 (fun _ _ h => h) () rfl ⟨(by rw [u41]; rfl), rfl, rfl, rfl, rfl, rfl, rfl, trivial⟩
 refine Zm (GL.cut0 3 [(93, .bool ((((((((((!r5) || (!r10)) || r15) || (!r20)) || (!r25)) || ((r6 : Int) != 0)) || ((r11 : Int) != 0)) || ((r16 : Int) != 0)) || ((r21 : Int) != 0)) || ((r26 : Int) != 0))), (1, pv r1), (12, slv r28), (13, .int .i64 r29), (14, slv r31), (15, .int .i64 r32)] ?_ ?_)
 rcases Zb (((((((((!r5) || (!r10)) || r15) || (!r20)) || (!r25)) || ((r6 : Int) != 0)) || ((r11 : Int) != 0)) || ((r16 : Int) != 0)) || ((r21 : Int) != 0)) with u42 | u42
 refine Zk u42 (Zk u42 (Zt u42 ?_))
 exact GL.jump0 (fun _ _ h => h) () rfl ⟨(by rw [u42]; rfl), rfl, rfl, rfl, rfl, rfl, trivial⟩
 refine Zu u42 Ym (Zu u42 (OV.ibin (v := .bool ((r26 : Int) != 0)) rfl rfl rfl) (Zn u42 ?_))
 exact GL.jump0 (fun _ _ h => h) () rfl ⟨(by rw [u42]; rfl), rfl, rfl, rfl, rfl, rfl, trivial⟩
 refine Zm (GL.cut0 3 [(97, .bool (((((((((((!r5) || (!r10)) || r15) || (!r20)) || (!r25)) || ((r6 : Int) != 0)) || ((r11 : Int) != 0)) || ((r16 : Int) != 0)) || ((r21 : Int) != 0)) || ((r26 : Int) != 0)) || ((r29 : Int) != 0))), (1, pv r1), (12, slv r28), (14, slv r31), (15, .int .i64 r32)] ?_ ?_)
 rcases Zb ((((((((((!r5) || (!r10)) || r15) || (!r20)) || (!r25)) || ((r6 : Int) != 0)) || ((r11 : Int) != 0)) || ((r16 : Int) != 0)) || ((r21 : Int) != 0)) || ((r26 : Int) != 0)) with u43 | u43
 refine Zk u43 (Zk u43 (Zt u43 ?_))
 exact GL.jump0 (fun _ _ h => h) () rfl ⟨(by rw [u43]; rfl), rfl, rfl, rfl, rfl, trivial⟩
 refine Zu u43 Ym (Zu u43 (OV.ibin (v := .bool ((r29 : Int) != 0)) rfl rfl rfl) (Zn u43 ?_))
 exact GL.jump0 (fun _ _ h => h) () rfl ⟨(by rw [u43]; rfl), rfl, rfl, rfl, rfl, trivial⟩
 refine Zm (GL.cut0 3 [(101, .bool ((((((((((((!r5) || (!r10)) || r15) || (!r20)) || (!r25)) || ((r6 : Int) != 0)) || ((r11 : Int) != 0)) || ((r16 : Int) != 0)) || ((r21 : Int) != 0)) || ((r26 : Int) != 0)) || ((r29 : Int) != 0)) || ((r32 : Int) != 0))), (1, pv r1), (12, slv r28), (14, slv r31)] ?_ ?_)
 rcases Zb (((((((((((!r5) || (!r10)) || r15) || (!r20)) || (!r25)) || ((r6 : Int) != 0)) || ((r11 : Int) != 0)) || ((r16 : Int) != 0)) || ((r21 : Int) != 0)) || ((r26 : Int) != 0)) || ((r29 : Int) != 0)) with u44 | u44
 refine Zk u44 (Zk u44 (Zt u44 ?_))
 exact GL.jump0 (fun _ _ h => h) () rfl ⟨(by rw [u44]; rfl), rfl, rfl, rfl, trivial⟩
 refine Zu u44 Ym (Zu u44 (OV.ibin (v := .bool ((r32 : Int) != 0)) rfl rfl rfl) (Zn u44 ?_))
 exact GL.jump0 (fun _ _ h => h) () rfl ⟨(by rw [u44]; rfl), rfl, rfl, rfl, trivial⟩
 refine Zm ?_
 obtain ⟨J46, h, hR47⟩ := h
 refine GL.cut (α := Bool) 4 J46 (fun b45 => [(106, .bool b45), (1, pv r1), (12, slv r28), (14, slv r31)]) ?_ ?_
 rcases h.em with ⟨u48, h⟩ | ⟨u48, h⟩
 refine Zk u48 (Zk u48 (Zk u48 (Zt u48 ?_)))
 exact Yj I3 true h
 refine Zu u48 Ym (GL.call h (Yt u48) rfl QbA (vs := [pv r1]) rfl ?_)
 rintro _ H50 ⟨r49, rfl, h⟩
 refine Zu u48 (OV.ibin (v := .bool ((r49 : Int) != 4)) rfl rfl rfl) (Zn u48 ?_)
 exact Yj I3 ((r49 : Int) != 4) h
 intro b45 H51 h
 replace h := hR47 b45 H51 h
 refine GL.nil (Yd h (fun u52 h => ?_) fun u52 h => ?_)
 refine Zo (Za (GL.nil ?_))
 exact Y1 I3 ⟨false, rfl, h⟩
 refine GC.skip (GC.seq (Zo (Zm (Zc h QN ?_))))
 rintro _ H54 ⟨r53, rfl, h⟩
 refine Zv (OV.build (vs := [(0, .agg (Qd.c r53).toArray), (1, .int .i64 (-1))]) (v := .agg (Qb.c (⟨r53, (-1)⟩ : Qb)).toArray) rfl (fun _ => by kernel_rfl)) (Zc h QN ?_)
 rintro _ H56 ⟨r55, rfl, h⟩
 refine Zv (OV.build (vs := [(0, .agg (Qd.c r55).toArray), (1, .int .i64 1)]) (v := .agg (Qb.c (⟨r55, 1⟩ : Qb)).toArray) rfl (fun _ => by kernel_rfl)) (GL.buildSlice (cs := (Qb.c (⟨r53, (-1)⟩ : Qb)) ++ (Qb.c (⟨r55, 1⟩ : Qb)) ++ []) h trivial rfl (vs := [(0, .agg (Qb.c (⟨r53, (-1)⟩ : Qb)).toArray), (1, .agg (Qb.c (⟨r55, 1⟩ : Qb)).toArray)]) rfl ⟨43, fun _ => by kernel_rfl⟩ ?_)
 intro b57 H58 h
 refine Zc h QbE ?_
 rintro _ H60 ⟨r59, rfl, h⟩
 refine Zv (OV.not rfl) (Zm ?_)
 obtain ⟨J62, h, hR63⟩ := h
 refine GL.cut (α := Bool) 9 J62 (fun b61 => [(124, .bool b61), (1, pv r1)]) ?_ ?_
 rcases h.em with ⟨u64, h⟩ | ⟨u64, h⟩
 refine Zk u64 (Zk u64 (Zk u64 (Zk u64 (Zk u64 (Zk u64 (Zk u64 (Zk u64 (Zt u64 ?_))))))))
 exact Yj I3 true h
 refine Zu u64 Ym (GL.call h (Yt u64) rfl QN (vs := [sv [114], .int .i64 2]) rfl ?_)
 rintro _ H66 ⟨r65, rfl, h⟩
 refine Zu u64 (OV.build (vs := [(0, .agg (Qd.c r65).toArray), (1, .int .i64 1)]) (v := .agg (Qb.c (⟨r65, 1⟩ : Qb)).toArray) rfl (fun _ => by kernel_rfl)) (GL.call h (Yt u64) rfl QN (vs := [sv [115], .int .i64 1]) rfl ?_)
 rintro _ H68 ⟨r67, rfl, h⟩
 refine Zu u64 (OV.build (vs := [(0, .agg (Qd.c r67).toArray), (1, .int .i64 1)]) (v := .agg (Qb.c (⟨r67, 1⟩ : Qb)).toArray) rfl (fun _ => by kernel_rfl)) (GL.buildSlice (cs := (Qb.c (⟨r65, 1⟩ : Qb)) ++ (Qb.c (⟨r67, 1⟩ : Qb)) ++ []) h (Yt u64) rfl (vs := [(0, .agg (Qb.c (⟨r65, 1⟩ : Qb)).toArray), (1, .agg (Qb.c (⟨r67, 1⟩ : Qb)).toArray)]) rfl ⟨43, fun _ => by kernel_rfl⟩ ?_)
 intro b69 H70 h
 refine GL.call h (Yt u64) rfl QbE (vs := [slv r31, slv (Sl.of (some (b69, 0)) 2 2)]) rfl ?_
 rintro _ H72 ⟨r71, rfl, h⟩
 refine Zu u64 (OV.not rfl) (Zn u64 ?_)
 exact Yj I3 (!r71) h
 intro b61 H73 h
 replace h := hR63 b61 H73 h
 refine GL.nil (Yd h (fun u74 h => ?_) fun u74 h => ?_)
 refine Zo (Za (GL.nil ?_))
 exact Y1 I3 ⟨false, rfl, h⟩
 refine GC.skip (Zo (Zm (Zc h QaZ ?_)))
 rintro _ H76 ⟨r75, rfl, h⟩
 refine Za (GL.nil (Zo (Zm (Zi (.bool ((r75 : Int) == 0)) (Zm ?_)))))
 obtain ⟨J78, h, hR79⟩ := h
 refine GL.cut (α := Bool) 5 J78 (fun b77 => [(134, .bool b77), (1, pv r1)]) ?_ ?_
 rcases h.em with ⟨u80, h⟩ | ⟨u80, h⟩
 refine Zu u80 Ym (GL.call h (Yt u80) rfl Qc2 (vs := [pv r1, sv [114]]) rfl ?_)
 rintro _ H82 ⟨r81, rfl, h⟩
 refine Zu u80 (OV.lenSl rfl rfl) (Zu u80 (OV.ibin (v := .bool (((Sl.len r81 : Int) : Int) == 2)) rfl rfl rfl) (Zt u80 ?_))
 exact Yj I3 (((Sl.len r81 : Int) : Int) == 2) h
 refine Zk u80 (Zk u80 (Zk u80 (Zk u80 (Zn u80 ?_))))
 exact Yj I3 false h
 intro b77 H83 h
 replace h := hR79 b77 H83 h
 refine Zm ?_
 obtain ⟨J85, h, hR86⟩ := h
 refine GL.cut (α := Bool) 5 J85 (fun b84 => [(140, .bool b84), (1, pv r1)]) ?_ ?_
 rcases h.em with ⟨u87, h⟩ | ⟨u87, h⟩
 refine Zu u87 Ym (GL.call h (Yt u87) rfl QcB (vs := [pv r1]) rfl ?_)
 rintro _ H89 ⟨r88, rfl, h⟩
 refine Zu u87 (OV.lenSl rfl rfl) (Zu u87 (OV.ibin (v := .bool (((Sl.len r88 : Int) : Int) == 1)) rfl rfl rfl) (Zt u87 ?_))
 exact Yj I3 (((Sl.len r88 : Int) : Int) == 1) h
 refine Zk u87 (Zk u87 (Zk u87 (Zk u87 (Zn u87 ?_))))
 exact Yj I3 false h
 intro b84 H90 h
 replace h := hR86 b84 H90 h
 refine Zm ?_
 obtain ⟨J92, h, hR93⟩ := h
 refine GL.cut (α := Bool) 4 J92 (fun b91 => [(145, .bool b91), (1, pv r1)]) ?_ ?_
 rcases h.em with ⟨u94, h⟩ | ⟨u94, h⟩
 refine Zu u94 Ym (GL.call h (Yt u94) rfl QN (vs := [sv [114], .int .i64 1]) rfl ?_)
 rintro _ H96 ⟨r95, rfl, h⟩
 refine GL.call h (Yt u94) rfl QbY (vs := [pv r1, .agg (Qd.c r95).toArray]) rfl ?_
 rintro _ H98 ⟨r97, rfl, h⟩
 refine Zt u94 ?_
 exact Yj I3 r97 h
 refine Zk u94 (Zk u94 (Zk u94 (Zn u94 ?_)))
 exact Yj I3 false h
 intro b91 H99 h
 replace h := hR93 b91 H99 h
 refine Zm ?_
 obtain ⟨J101, h, hR102⟩ := h
 refine GL.cut (α := Bool) 5 J101 (fun b100 => [(151, .bool b100), (1, pv r1)]) ?_ ?_
 rcases h.em with ⟨u103, h⟩ | ⟨u103, h⟩
 refine Zu u103 Ym (GL.call h (Yt u103) rfl QN (vs := [sv [115], .int .i64 1]) rfl ?_)
 rintro _ H105 ⟨r104, rfl, h⟩
 refine GL.call h (Yt u103) rfl QbY (vs := [pv r1, .agg (Qd.c r104).toArray]) rfl ?_
 rintro _ H107 ⟨r106, rfl, h⟩
 refine Zu u103 (OV.not rfl) (Zt u103 ?_)
 exact Yj I3 (!r106) h
 refine Zk u103 (Zk u103 (Zk u103 (Zk u103 (Zn u103 ?_))))
 exact Yj I3 false h
 intro b100 H108 h
 replace h := hR102 b100 H108 h
 refine Zm ?_
 obtain ⟨J110, h, hR111⟩ := h
 refine GL.cut (α := Bool) 4 J110 (fun b109 => [(156, .bool b109)]) ?_ ?_
 rcases h.em with ⟨u112, h⟩ | ⟨u112, h⟩
 refine Zu u112 Ym (GL.call h (Yt u112) rfl QbA (vs := [pv r1]) rfl ?_)
 rintro _ H114 ⟨r113, rfl, h⟩
 refine Zu u112 (OV.ibin (v := .bool ((r113 : Int) == 2)) rfl rfl rfl) (Zt u112 ?_)
 exact Yj I3 ((r113 : Int) == 2) h
 refine Zk u112 (Zk u112 (Zk u112 (Zn u112 ?_)))
 exact Yj I3 false h
 intro b109 H115 h
 replace h := hR111 b109 H115 h
 refine Za (GL.nil ?_)
 exact Y1 I3 ⟨b109, rfl, h⟩
def Qfk (C : Ctx) (K : Option (Nat × Nat) → Heap → Prop) (H : Heap) : Prop :=
 mkM (fun b1 H2 =>
 nw (QV.c (⟨(some b1), Sl.nil⟩ : QV)) (fun b3 H4 =>
 K (some (b3, 0)) H4) H2) H
theorem QgP (C : Ctx) (K : Option (Nat × Nat) → Heap → Prop) (H : Heap) (h : Qfk C  K H) : Qdv C  K H := by
 refine Spec.enter Tryz.func9 rfl Tryz.ntmps9 rfl (GC.sub [] trivial (Zo (Za (GL.nil (Zo (GL.makeMap h trivial rfl ?_))))))
 intro b1 H2 h
 refine Zv (OV.build (vs := [(0, mv (some b1))]) (v := .agg (QV.c (⟨(some b1), Sl.nil⟩ : QV)).toArray) rfl (fun _ => by kernel_rfl)) (GL.box (v := .agg (QV.c (⟨(some b1), Sl.nil⟩ : QV)).toArray) (cs := QV.c (⟨(some b1), Sl.nil⟩ : QV)) h trivial rfl rfl rfl ?_)
 intro b3 H4 h
 refine Za (GL.nil ?_)
 exact Y1 I3 ⟨(some (b3, 0)), rfl, h⟩
end
section
set_option maxRecDepth 100000
open Go Go.Proofs
def QbC (C : Ctx) (p_l : Option (Nat × Nat)) (K : Int → Heap → Prop) (H : Heap) : Prop :=
 ift (Option.isNone p_l)
 (K 0 H)
 (nck p_l fun p2 =>
 ldL H (p2.1, p2.2 + 1) fun x4 =>
 K (Sl.len x4 : Int) H)
theorem QcY (C p_l K H) (h : QbC C p_l K H) : QE C p_l K H := by
 refine Ye Tryz.func12 rfl Tryz.ntmps12 [(0, pv p_l)] (Zo (Za (GL.nil (GC.seq (Zo (Zm (Zv (OV.eqlNil (p := p_l) rfl rfl rfl) (GL.nil (Yd h (fun u1 h => ?_) fun u1 h => ?_)))))))))
 refine Zo (Za (GL.nil ?_))
 exact Y1 I3 ⟨0, rfl, h⟩
 refine GC.skip (Zo (Zm ?_))
 obtain ⟨p2, hp3, h⟩ := h
 refine Zv (OV.nilCheck (q := p_l) rfl hp3) (Zf (Yl h fun x4 h => ?_))
 refine Zq (Za (GL.nil ?_))
 exact Y1 I3 ⟨(Sl.len x4 : Int), rfl, h⟩
def Qbl (C : Ctx) (p_l : Option (Nat × Nat)) (p_mark : Int) (K : Sl → Int → Heap → Prop) (H : Heap) : Prop :=
 Qam C p_l p_mark (fun r1 H2 =>
 ift ((r1 : Int) != 0)
 (K Sl.nil r1 H2)
 (mkM (fun b4 H5 =>
 nck p_l fun p6 =>
 ldL H5 (p6.1, p6.2 + 1) fun x8 =>
 slL x8 p_mark (Sl.len x8 : Int) (Sl.cap x8 : Int) 4 fun t10 =>
 lp (α := Int) 0 H5 (fun x16 J17 H18 =>
 ift (decide ((x16 : Int) < (Sl.len t10 : Int)))
 (jn (α := Unit) (fun x21 H22 =>
 J17 (w .i64 (x16 + 1)) H22)
 (fun J20 => ixa t10 x16 fun p24 =>
 ldT H18 Qc.c (p24.1, p24.2 + (x16 : Int).toNat * 4) fun x29 =>
 nw (Qc.c Qc.zero) (fun b31 H32 =>
 (List.all (Qc.c x29) Value.oneCell' = true) ∧
 stT (b31, 0) (Qc.c x29) (fun H33 =>
 ldS H33 ((b31, 0).1, (b31, 0).2 + 0) fun x35 =>
 ldS H33 ((b31, 0).1, (b31, 0).2 + 1) fun x37 =>
 nw (Qg.c Qg.zero) (fun b39 H40 =>
 stT (b39, 0) (Qg.c (⟨x35, x37⟩ : Qg)) (fun H41 =>
 ldT H41 Qg.c (b39, 0) fun x42 =>
 lkM kp (fun x : Sl => (slv x : Value)) Sl.nil (some b4) (x42.rel_, x42.key_) (fun x44 is45 =>
 ift is45
 (ldT H41 Qg.c (b39, 0) fun x48 =>
 delS kp (fun x : Sl => (slv x : Value)) (some b4) (x48.rel_, x48.key_) (fun H50 =>
 J20 () H50) H41)
 (ldT H41 Qg.c (b39, 0) fun x51 =>
 ldL H41 ((b31, 0).1, (b31, 0).2 + 2) fun x53 =>
 upS kp (fun x : Sl => (slv x : Value)) (some b4) (x51.rel_, x51.key_) x53 (fun H55 =>
 J20 () H55) H41)) H41) H40) H33) H32) H18))
 (rgM kp (fun x : Sl => (slv x : Value)) (some b4) (fun b56 H57 =>
 lp (α := Sl) Sl.nil H57 (fun x58 J59 H60 =>
 nxB kp (fun x : Sl => (slv x : Value)) b56 (fun b61 H62 =>
 ift b61
 (enM kp (fun x : Sl => (slv x : Value)) b56 (fun k64 x65 =>
 nw (Qg.c Qg.zero) (fun b67 H68 =>
 stT (b67, 0) (Qg.c (⟨k64.1, k64.2⟩ : Qg)) (fun H69 =>
 jn (α := Nat × Nat) (fun x71 H72 =>
 jn (α := Unit) (fun x93 H94 =>
 ldT H94 Qb.c x71 fun x112 =>
 apd (Qb.c Qb.zero) 48 x58 ((Qb.c x112) ++ []) 1 (fun r114 H115 =>
 J59 r114 H115) H94)
 (fun J92 => nck p_l fun p96 =>
 ldM H72 (p96.1, p96.2 + 0) fun x98 =>
 ldS H72 ((b67, 0).1, (b67, 0).2 + 0) fun x100 =>
 lkM sv (fun x : Option Nat => (mv x : Value)) none x98 x100 (fun x102 is103 =>
 ldS H72 ((b67, 0).1, (b67, 0).2 + 1) fun x105 =>
 lkM sv (fun x : Sl => (slv x : Value)) Sl.nil x102 x105 (fun x107 is108 =>
 ift is108
 (st (x71.1, x71.2 + 2) (.int .i64 1) (fun H111 =>
 J92 () H111) H72)
 (J92 () H72)) H72) H72))
 (fun J70 => dr H69 fun Hs74 =>
 ldS Hs74 ((b67, 0).1, (b67, 0).2 + 0) fun x76 =>
 (Qar C x65 (fun r79 H80 =>
 Heap.le Hs74 H80 ∧
 nw (Qb.c Qb.zero) (fun b82 H83 =>
 Heap.le Hs74 H83 ∧
 stT (b82, 0) (Qb.c (⟨(⟨x76, r79⟩ : Qd), (-1)⟩ : Qb)) (fun H84 =>
 J70 (b82, 0) H84) H83) H80) H69) ∧
 (nw (Qb.c Qb.zero) (fun b86 H87 =>
 Heap.le Hs74 H87 ∧
 Qar C x65 (fun r89 H90 =>
 Heap.le Hs74 H90 ∧
 stT (b86, 0) (Qb.c (⟨(⟨x76, r89⟩ : Qd), (-1)⟩ : Qb)) (fun H91 =>
 J70 (b86, 0) H91) H90) H87) H69))) H68) H62) H62)
 (QM C x58 (.func (.func 34) (List.toArray []) (List.toArray []) : Value) (fun H116 =>
 K x58 0 H116) H62)) H60)) H18))) H2)) H
theorem Qcu (C p_l p_mark K H) (h : Qbl C p_l p_mark K H) : Qy C p_l p_mark K H := by
 refine Ye Tryz.func13 rfl Tryz.ntmps13 [(0, pv p_l), (1, .int .i64 p_mark)] (Zo (Za (Za (GL.nil (GC.seq (Zo (Zm (Zm (Zc h QcC ?_)))))))))
 rintro _ H2 ⟨r1, rfl, h⟩
 refine Za (GL.nil (Zo (Zm (Zi (.bool ((r1 : Int) != 0)) (GL.nil (Yd h (fun u3 h => ?_) fun u3 h => ?_))))))
 refine Zo (Zm (Za (Za (GL.nil ?_))))
 exact Y2 I3 ⟨Sl.nil, r1, rfl, h⟩
 refine GC.skip (Zo (GL.makeMap h trivial rfl ?_))
 intro b4 H5 h
 refine Za (GL.nil (GC.seq (Zo (Zm ?_))))
 obtain ⟨p6, hp7, h⟩ := h
 refine Zv (OV.nilCheck (q := p_l) rfl hp7) (Zf (Yl h fun x8 h => ?_))
 refine Zm ?_
 obtain ⟨h11, h12, h13, h14, t10, h15, h⟩ := h
 refine Zv (OV.sliceSl (s := x8) h11 h12 h13 h14 h15 rfl rfl rfl rfl rfl rfl rfl (fun h => by first | rfl | cases h) rfl rfl) (Zq (Zm (GL.nil (GC.block (Yp h (fun x16 => [(33, .int .i64 x16), (0, pv p_l), (7, mv (some b4)), (31, slv t10), (32, .int .i64 (Sl.len t10 : Int))]) ?_)))))
 intro x16 H18 J17 h
 refine Zo (Zi (.bool (decide ((x16 : Int) < (Sl.len t10 : Int)))) (GL.nil (GC.seq (Yd h (fun u19 h => ?_) fun u19 h => ?_))))
 refine GC.skip ?_
 obtain ⟨J20, h, hR23⟩ := h
 refine GC.join (α := Unit) J20 (fun _ => [(0, pv p_l), (7, mv (some b4)), (31, slv t10), (32, .int .i64 (Sl.len t10 : Int)), (33, .int .i64 x16)]) ?_ ?_
 refine GC.block (Zo (Yx h fun p24 h => ?_))
 obtain ⟨x29, v30, h⟩ := h
 refine Zv (OV.loadT rfl rfl rfl v30) (GL.alloc (cs := Qc.c Qc.zero) h trivial rfl rfl rfl ?_)
 intro b31 H32 h
 obtain ⟨h134, h⟩ := h
 refine GL.storeT (p := (b31, 0)) (vs := Qc.c x29) h trivial rfl rfl h134 rfl ?_
 intro H33 h
 refine GL.nil (Zo (Zf (Yl h fun x35 h => ?_)))
 refine Zf (Yl h fun x37 h => ?_)
 refine Zv (OV.build (vs := [(0, sv x35), (1, sv x37)]) (v := .agg (Qg.c (⟨x35, x37⟩ : Qg)).toArray) rfl (fun _ => by kernel_rfl)) (GL.alloc (cs := Qg.c Qg.zero) h trivial rfl rfl rfl ?_)
 intro b39 H40 h
 refine GL.storeT (p := (b39, 0)) (vs := Qg.c (⟨x35, x37⟩ : Qg)) h trivial rfl rfl rfl rfl ?_
 intro H41 h
 refine GL.nil (Zo (Zm ?_))
 obtain ⟨x42, v43, h⟩ := h
 refine Zv (OV.loadT rfl rfl rfl v43) ?_
 obtain ⟨x44, is45, v46, h⟩ := h
 refine Zv (OV.lookup2 (v := .tuple #[slv x44, .bool is45]) (ke := kp) (enc := (fun x : Sl => (slv x : Value))) (z := Sl.nil) (q := (some b4)) (k := (x42.rel_, x42.key_)) (x := x44) (b := is45) rfl v46 rfl rfl rfl kOk71 rfl) (Zm (Yv (slv x44) rfl rfl (Yv (.bool is45) rfl rfl (Za (Za (GL.nil (Zo (Zm (GL.nil (Yd h (fun u47 h => ?_) fun u47 h => ?_))))))))))
 refine GC.region (Zm ?_)
 obtain ⟨x48, v49, h⟩ := h
 refine Zv (OV.loadT rfl rfl rfl v49) (GL.deleteM (ke := kp) (enc := (fun x : Sl => (slv x : Value))) (q := (some b4)) (k := (x48.rel_, x48.key_)) h trivial rfl rfl rfl kOk71 ?_)
 intro H50 h
 exact Yj I3 () h
 refine GC.region (Zm ?_)
 obtain ⟨x51, v52, h⟩ := h
 refine Zv (OV.loadT rfl rfl rfl v52) (Zf (Yl h fun x53 h => ?_))
 refine GL.mapUpdateS (ke := kp) (enc := (fun x : Sl => (slv x : Value))) (q := (some b4)) (k := (x51.rel_, x51.key_)) (x := x53) h trivial rfl rfl rfl rfl kOk71 ?_
 intro H55 h
 exact Yj I3 () h
 intro x21 H22 h
 replace h := hR23 x21 H22 h
 refine GC.region (Zi (.int .i64 (w .i64 (x16 + 1))) (Zm ?_))
 exact Yj I3 (w .i64 (x16 + 1)) h
 refine GC.exit_to (fun _ _ h => h) (Zo (Za (GL.nil (GC.seq (Zo (Zm (GL.rangeQ (ke := kp) (enc := (fun x : Sl => (slv x : Value))) (q := (some b4)) h trivial rfl rfl rfl kOk71 ?_)))))))
 intro b56 H57 h
 refine GL.nil (GC.block (Yp h (fun x58 => [(13, slv x58), (0, pv p_l), (57, pv (some (b56, 0)))]) ?_))
 intro x58 H60 J59 h
 refine Zo (GL.nextB (ke := kp) (enc := (fun x : Sl => (slv x : Value))) (it := b56) h trivial rfl rfl rfl rfl rfl ?_)
 intro b61 H62 h
 refine GL.nil (GC.seq (Yd h (fun u63 h => ?_) fun u63 h => ?_))
 refine GC.skip (GC.block (Zo ?_))
 obtain ⟨k64, x65, v66, h⟩ := h
 refine Zv (OV.entryM (ke := kp) (enc := (fun x : Sl => (slv x : Value))) (it := b56) (k := k64) (x := x65) (v := .tuple #[kp k64, slv x65]) rfl v66 rfl) (Yv (.agg (Qg.c (⟨k64.1, k64.2⟩ : Qg)).toArray) rfl rfl (Yv (slv x65) rfl rfl (GL.alloc (cs := Qg.c Qg.zero) h trivial rfl rfl rfl ?_)))
 intro b67 H68 h
 refine GL.storeT (p := (b67, 0)) (vs := Qg.c (⟨k64.1, k64.2⟩ : Qg)) h trivial rfl rfl rfl rfl ?_
 intro H69 h
 refine Za (GL.nil (GC.seq ?_))
 obtain ⟨J70, h, hR73⟩ := h
 refine GC.meet (α := Nat × Nat) J70 (fun x71 => [(16, pv (some x71)), (0, pv p_l), (13, slv x58), (14, pv (some (b67, 0))), (57, pv (some (b56, 0)))]) ?_ ?_
 obtain ⟨Hs74, hle75, h⟩ := h
 refine GC.tail (Hs := Hs74) 7 (by kernel_rfl) hle75 (by kernel_rfl) (Zy 0 rfl Yf ?_)
 obtain ⟨x76, v77, h⟩ := h
 refine Zy 1 rfl (Yo v77) (Zy 2 rfl Ym (GT.effs [3, 6] (by kernel_rfl) (by simp) (List.forall_mem_cons.2 ⟨⟨_, rfl, rfl, ?_⟩, List.forall_mem_cons.2 ⟨⟨_, rfl, rfl, ?_⟩, fun _ h => by cases h⟩⟩)))
 replace h := h.1
 refine Zc h QbZ ?_
 rintro _ H80 ⟨r79, rfl, h⟩
 obtain ⟨hle78, h⟩ := h
 refine GT.back hle78 (Zy 4 rfl (OV.build (vs := [(0, sv x76), (1, slv r79)]) (v := .agg (Qd.c (⟨x76, r79⟩ : Qd)).toArray) rfl (fun _ => by kernel_rfl)) (Zy 5 rfl (OV.build (vs := [(0, .agg (Qd.c (⟨x76, r79⟩ : Qd)).toArray), (1, .int .i64 (-1))]) (v := .agg (Qb.c (⟨(⟨x76, r79⟩ : Qd), (-1)⟩ : Qb)).toArray) rfl (fun _ => by kernel_rfl)) (GT.eff 6 rfl (by kernel_rfl) rfl (GL.alloc (cs := Qb.c Qb.zero) h trivial rfl rfl rfl ?_))))
 intro b82 H83 h
 obtain ⟨hle81, h⟩ := h
 refine GT.back hle81 (GT.done (by kernel_rfl) ?_)
 show GL _ _ _ _ _ [_] _ _
 refine GL.storeT (p := (b82, 0)) (vs := Qb.c (⟨(⟨x76, r79⟩ : Qd), (-1)⟩ : Qb)) h trivial rfl rfl rfl rfl ?_
 intro H84 h
 exact Yj I3 (b82, 0) h
 replace h := h.2
 refine GL.alloc (cs := Qb.c Qb.zero) h trivial rfl rfl rfl ?_
 intro b86 H87 h
 obtain ⟨hle85, h⟩ := h
 refine GT.back hle85 (GT.eff 3 rfl (by kernel_rfl) rfl (Zc h QbZ ?_))
 rintro _ H90 ⟨r89, rfl, h⟩
 obtain ⟨hle88, h⟩ := h
 refine GT.back hle88 (Zy 4 rfl (OV.build (vs := [(0, sv x76), (1, slv r89)]) (v := .agg (Qd.c (⟨x76, r89⟩ : Qd)).toArray) rfl (fun _ => by kernel_rfl)) (Zy 5 rfl (OV.build (vs := [(0, .agg (Qd.c (⟨x76, r89⟩ : Qd)).toArray), (1, .int .i64 (-1))]) (v := .agg (Qb.c (⟨(⟨x76, r89⟩ : Qd), (-1)⟩ : Qb)).toArray) rfl (fun _ => by kernel_rfl)) (GT.done (by kernel_rfl) ?_)))
 show GL _ _ _ _ _ [_] _ _
 refine GL.storeT (p := (b86, 0)) (vs := Qb.c (⟨(⟨x76, r89⟩ : Qd), (-1)⟩ : Qb)) h trivial rfl rfl rfl rfl ?_
 intro H91 h
 exact Yj I3 (b86, 0) h
 intro x71 H72 h
 replace h := hR73 x71 H72 h
 refine GL.nil ?_
 obtain ⟨J92, h, hR95⟩ := h
 refine GC.join (α := Unit) J92 (fun _ => [(0, pv p_l), (13, slv x58), (16, pv (some x71)), (57, pv (some (b56, 0)))]) ?_ ?_
 refine GC.seq (GC.draw (by kernel_rfl) (by kernel_rfl) (GQ.val trivial rfl (OV.move (v := pv p_l) rfl) ?_))
 obtain ⟨p96, hp97, h⟩ := h
 refine GQ.val trivial rfl (OV.nilCheck (q := p_l) rfl hp97) (GQ.val trivial rfl (OV.fieldAddr (p := p96) rfl rfl) ?_)
 obtain ⟨x98, v99, h⟩ := h
 refine GQ.val trivial rfl (OV.load (p := (p96.1, p96.2 + 0)) rfl rfl v99) (GQ.val trivial rfl (OV.fieldAddr (p := (b67, 0)) rfl rfl) ?_)
 obtain ⟨x100, v101, h⟩ := h
 refine GQ.val trivial rfl (OV.load (p := ((b67, 0).1, (b67, 0).2 + 0)) rfl rfl v101) ?_
 obtain ⟨x102, is103, v104, h⟩ := h
 refine GQ.val trivial rfl (OV.lookup1 (v := mv x102) (ke := sv) (enc := (fun x : Option Nat => (mv x : Value))) (z := none) (q := x98) (k := x100) (x := x102) (b := is103) rfl v104 rfl rfl rfl (kText rfl) rfl) (GQ.val trivial rfl (OV.fieldAddr (p := (b67, 0)) rfl rfl) ?_)
 obtain ⟨x105, v106, h⟩ := h
 refine GQ.val trivial rfl (OV.load (p := ((b67, 0).1, (b67, 0).2 + 1)) rfl rfl v106) ?_
 obtain ⟨x107, is108, v109, h⟩ := h
 refine GQ.val trivial rfl (OV.lookup2 (v := .tuple #[slv x107, .bool is108]) (ke := sv) (enc := (fun x : Sl => (slv x : Value))) (z := Sl.nil) (q := x102) (k := x105) (x := x107) (b := is108) rfl v109 rfl rfl rfl (kText rfl) rfl) (GQ.val trivial rfl (OV.move (v := .tuple #[slv x107, .bool is108]) rfl) (GQ.val trivial rfl (OV.extract (v := slv x107) rfl rfl) (GQ.val trivial rfl (OV.extract (v := .bool is108) rfl rfl) (GQ.val trivial rfl (OV.assign (v := slv x107) rfl) (GQ.val trivial rfl (OV.assign (v := .bool is108) rfl) (GQ.nil (GL.nil (Zo (Zm (GL.nil (Yd h (fun u110 h => ?_) fun u110 h => ?_)))))))))))
 refine GC.region (Zf (GL.store (p := (x71.1, x71.2 + 2)) (v := .int .i64 1) h trivial rfl rfl rfl rfl ?_))
 intro H111 h
 exact Yj I3 () h
 exact Yk I3 () h
 intro x93 H94 h
 replace h := hR95 x93 H94 h
 refine GC.region (Zm ?_)
 obtain ⟨x112, v113, h⟩ := h
 refine Zv (OV.loadT rfl rfl rfl v113) (GL.appendLit (s := x58) (ys := (Qb.c x112) ++ []) (zc := Qb.c Qb.zero) (bytes := 48) h trivial rfl (fun _ => trivial) rfl (fun _ => rfl) (fun _ => rfl) (vs := [(0, .agg (Qb.c x112).toArray)]) rfl ⟨43, fun _ => by kernel_rfl⟩ ⟨⟨_, _, _, rfl, rfl, rfl, rfl, rfl, rfl⟩⟩ rfl rfl ?_)
 intro _ r114 H115 h
 refine Za ?_
 exact Yj I3 r114 h
 refine GC.exit_to (fun _ _ h => h) (Zo (Zm (Zc h QaD ?_)))
 rintro _ H116 ⟨rfl, h⟩
 refine GL.nil (Zo (Zm (Za (Za (GL.nil ?_)))))
 exact Y2 I3 ⟨x58, 0, rfl, h⟩
def Qb2 (C : Ctx) (p_l : Option (Nat × Nat)) (p_r : Qd) (K : Bool → Int → Heap → Prop) (H : Heap) : Prop :=
 nw ([pv p_l]) (fun b1 H2 =>
 nw (Qd.c p_r) (fun b3 H4 =>
 ldP H4 (b1, 0) fun x5 =>
 ift (Option.isNone x5)
 (K false 2 H4)
 (ldL H4 ((b3, 0).1, (b3, 0).2 + 1) fun x8 =>
 Qcw C x8 (fun r10 r11 H12 =>
 nw ([sv []]) (fun b13 H14 =>
 st (b13, 0) (sv r10) (fun H15 =>
 ift (!r11)
 (K false 4 H15)
 (ldP H15 (b1, 0) fun x17 =>
 nck x17 fun p19 =>
 ldM H15 (p19.1, p19.2 + 0) fun x21 =>
 ldS H15 ((b3, 0).1, (b3, 0).2 + 0) fun x23 =>
 lkM sv (fun x : Option Nat => (mv x : Value)) none x21 x23 (fun x25 is26 =>
 ldS H15 (b13, 0) fun x28 =>
 lkM sv (fun x : Sl => (slv x : Value)) Sl.nil x25 x28 (fun x30 is31 =>
 ift is31
 (K false 0 H15)
 (ldL H15 ((b3, 0).1, (b3, 0).2 + 1) fun x34 =>
 Qar C x34 (fun r36 H37 =>
 ldP H37 (b1, 0) fun x38 =>
 ldS H37 ((b3, 0).1, (b3, 0).2 + 0) fun x40 =>
 ldS H37 (b13, 0) fun x42 =>
 QbN C x38 x40 x42 r36 (fun H44 =>
 dr H44 fun Hs45 =>
 ldP Hs45 (b1, 0) fun x47 =>
 ldP Hs45 (b1, 0) fun x49 =>
 nck x49 fun p51 =>
 ldL Hs45 (p51.1, p51.2 + 1) fun x53 =>
 ldS Hs45 ((b3, 0).1, (b3, 0).2 + 0) fun x55 =>
 ldS Hs45 (b13, 0) fun x57 =>
 nw ((Qc.c (⟨x55, x57, r36, (.func (.func 40) (List.toArray []) (List.toArray [pv (some (b1, 0)), pv (some (b3, 0)), pv (some (b13, 0))]) : Value)⟩ : Qc)) ++ []) (fun b60 H61 =>
 Heap.le Hs45 H61 ∧
 apS (Qc.c Qc.zero) 64 x53 (Sl.of (some (b60, 0)) 1 1) (fun r63 H64 =>
 Heap.le Hs45 H64 ∧
 nck x47 fun p65 =>
 st (p65.1, p65.2 + 1) (slv r63) (fun H67 =>
 K true 0 H67) H64) H61) H44) H37) H15)) H15) H15)) H14) H12) H4)) H2) H
theorem Qdd (C p_l p_r K H) (h : Qb2 C p_l p_r K H) : Qx C p_l p_r K H := by
 refine Ye Tryz.func14 rfl Tryz.ntmps14 [(0, pv p_l), (1, .agg (Qd.c p_r).toArray)] (Zo (GL.box (v := pv p_l) (cs := [pv p_l]) h trivial rfl rfl rfl ?_))
 intro b1 H2 h
 refine GL.box (v := .agg (Qd.c p_r).toArray) (cs := Qd.c p_r) h trivial rfl rfl rfl ?_
 intro b3 H4 h
 refine Za (Za (GL.nil (GC.seq (Zo (Yl h fun x5 h => ?_)))))
 refine Zv (OV.eqlNil (p := x5) rfl rfl rfl) (GL.nil (Yd h (fun u7 h => ?_) fun u7 h => ?_))
 refine Zo (Za (Za (GL.nil ?_)))
 exact Y2 I3 ⟨false, 2, rfl, h⟩
 refine GC.skip (Zo (Zf (Yl h fun x8 h => ?_)))
 refine Zc h QdW ?_
 rintro _ H12 ⟨r10, r11, rfl, h⟩
 refine Zm (Yv (sv r10) rfl rfl (Yv (.bool r11) rfl rfl (GL.alloc (cs := [sv []]) h trivial rfl rfl rfl ?_)))
 intro b13 H14 h
 refine GL.store (p := (b13, 0)) (v := sv r10) h trivial rfl rfl rfl rfl ?_
 intro H15 h
 refine Za (GL.nil (GC.seq (Zo (Zm (Zv (OV.not rfl) (GL.nil (Yd h (fun u16 h => ?_) fun u16 h => ?_)))))))
 refine Zo (Za (Za (GL.nil ?_)))
 exact Y2 I3 ⟨false, 4, rfl, h⟩
 refine GC.skip (GC.seq (GC.seq (GC.draw (by kernel_rfl) (by kernel_rfl) ?_)))
 obtain ⟨x17, v18, h⟩ := h
 refine GQ.val trivial rfl (OV.load (p := (b1, 0)) rfl rfl v18) ?_
 obtain ⟨p19, hp20, h⟩ := h
 refine GQ.val trivial rfl (OV.nilCheck (q := x17) rfl hp20) (GQ.val trivial rfl (OV.fieldAddr (p := p19) rfl rfl) ?_)
 obtain ⟨x21, v22, h⟩ := h
 refine GQ.val trivial rfl (OV.load (p := (p19.1, p19.2 + 0)) rfl rfl v22) (GQ.val trivial rfl (OV.fieldAddr (p := (b3, 0)) rfl rfl) ?_)
 obtain ⟨x23, v24, h⟩ := h
 refine GQ.val trivial rfl (OV.load (p := ((b3, 0).1, (b3, 0).2 + 0)) rfl rfl v24) ?_
 obtain ⟨x25, is26, v27, h⟩ := h
 refine GQ.val trivial rfl (OV.lookup1 (v := mv x25) (ke := sv) (enc := (fun x : Option Nat => (mv x : Value))) (z := none) (q := x21) (k := x23) (x := x25) (b := is26) rfl v27 rfl rfl rfl (kText rfl) rfl) ?_
 obtain ⟨x28, v29, h⟩ := h
 refine GQ.val trivial rfl (OV.load (p := (b13, 0)) rfl rfl v29) ?_
 obtain ⟨x30, is31, v32, h⟩ := h
 refine GQ.val trivial rfl (OV.lookup2 (v := .tuple #[slv x30, .bool is31]) (ke := sv) (enc := (fun x : Sl => (slv x : Value))) (z := Sl.nil) (q := x25) (k := x28) (x := x30) (b := is31) rfl v32 rfl rfl rfl (kText rfl) rfl) (GQ.val trivial rfl (OV.move (v := .tuple #[slv x30, .bool is31]) rfl) (GQ.val trivial rfl (OV.extract (v := slv x30) rfl rfl) (GQ.val trivial rfl (OV.extract (v := .bool is31) rfl rfl) (GQ.val trivial rfl (OV.assign (v := slv x30) rfl) (GQ.val trivial rfl (OV.assign (v := .bool is31) rfl) (GQ.nil (GL.nil (Zo (Zm (GL.nil (Yd h (fun u33 h => ?_) fun u33 h => ?_)))))))))))
 refine Zo (Za (Za (GL.nil ?_)))
 exact Y2 I3 ⟨false, 0, rfl, h⟩
 refine GC.skip (Zo (Zf (Yl h fun x34 h => ?_)))
 refine Zc h QbZ ?_
 rintro _ H37 ⟨r36, rfl, h⟩
 refine Za (GL.nil (Zo (Yl h fun x38 h => ?_)))
 refine Zf (Yl h fun x40 h => ?_)
 refine Yl h fun x42 h => ?_
 refine Zm (Zc h QdI ?_)
 rintro _ H44 ⟨rfl, h⟩
 refine GL.nil (GC.seq ?_)
 obtain ⟨Hs45, hle46, h⟩ := h
 refine GC.tail (Hs := Hs45) 15 (by kernel_rfl) hle46 (by kernel_rfl) ?_
 obtain ⟨x47, v48, h⟩ := h
 refine Zy 0 rfl (Yo v48) ?_
 obtain ⟨x49, v50, h⟩ := h
 refine Zy 1 rfl (Yo v50) ?_
 obtain ⟨p51, hp52, h⟩ := h
 refine Zy 2 rfl (OV.nilCheck (q := x49) rfl hp52) (Zy 3 rfl Yf ?_)
 obtain ⟨x53, v54, h⟩ := h
 refine Zy 4 rfl (Yo v54) (Zy 5 rfl Yf ?_)
 obtain ⟨x55, v56, h⟩ := h
 refine Zy 6 rfl (Yo v56) ?_
 obtain ⟨x57, v58, h⟩ := h
 refine Zy 7 rfl (Yo v58) (Zy 8 rfl Ym (Zy 9 rfl (OV.makeFunc (vs := []) (us := [pv (some (b1, 0)), pv (some (b3, 0)), pv (some (b13, 0))]) rfl rfl) (Zy 10 rfl (OV.build (vs := [(0, sv x55), (1, sv x57), (2, slv r36), (3, .func (.func 40) (List.toArray []) (List.toArray [pv (some (b1, 0)), pv (some (b3, 0)), pv (some (b13, 0))]))]) (v := .agg (Qc.c (⟨x55, x57, r36, (.func (.func 40) (List.toArray []) (List.toArray [pv (some (b1, 0)), pv (some (b3, 0)), pv (some (b13, 0))]) : Value)⟩ : Qc)).toArray) rfl (fun _ => by kernel_rfl)) (GT.eff 11 rfl (by kernel_rfl) rfl (GL.buildSlice (cs := (Qc.c (⟨x55, x57, r36, (.func (.func 40) (List.toArray []) (List.toArray [pv (some (b1, 0)), pv (some (b3, 0)), pv (some (b13, 0))]) : Value)⟩ : Qc)) ++ []) h trivial rfl (vs := [(0, .agg (Qc.c (⟨x55, x57, r36, (.func (.func 40) (List.toArray []) (List.toArray [pv (some (b1, 0)), pv (some (b3, 0)), pv (some (b13, 0))]) : Value)⟩ : Qc)).toArray)]) rfl ⟨69, fun _ => by kernel_rfl⟩ ?_)))))
 intro b60 H61 h
 obtain ⟨hle59, h⟩ := h
 refine GT.back hle59 (GT.eff 12 rfl (by kernel_rfl) rfl (GL.appendS (s := x53) (s2 := (Sl.of (some (b60, 0)) 1 1)) (zc := Qc.c Qc.zero) (bytes := 64) h trivial rfl rfl rfl ⟨⟨_, _, _, rfl, rfl, rfl, rfl, rfl, rfl⟩⟩ rfl ?_))
 intro r63 H64 h
 obtain ⟨hle62, h⟩ := h
 refine GT.back hle62 ?_
 obtain ⟨p65, hp66, h⟩ := h
 refine Zy 13 rfl (OV.nilCheck (q := x47) rfl hp66) (Zy 14 rfl Yf (GT.done (by kernel_rfl) ?_))
 show GL _ _ _ _ _ [_] _ _
 refine GL.store (p := (p65.1, p65.2 + 1)) (v := slv r63) h trivial rfl rfl rfl rfl ?_
 intro H67 h
 refine GL.nil (Zo (Za (Za (GL.nil ?_))))
 exact Y2 I3 ⟨true, 0, rfl, h⟩
def Qb0 (C : Ctx) (p_l : Option (Nat × Nat)) (p_r : Qd) (K : Bool → Int → Heap → Prop) (H : Heap) : Prop :=
 nw ([pv p_l]) (fun b1 H2 =>
 nw (Qd.c p_r) (fun b3 H4 =>
 ldP H4 (b1, 0) fun x5 =>
 ift (Option.isNone x5)
 (K false 2 H4)
 (ldL H4 ((b3, 0).1, (b3, 0).2 + 1) fun x8 =>
 Qcw C x8 (fun r10 r11 H12 =>
 nw ([sv []]) (fun b13 H14 =>
 st (b13, 0) (sv r10) (fun H15 =>
 ift (!r11)
 (K false 4 H15)
 (dr H15 fun Hs17 =>
 ldP Hs17 (b1, 0) fun x19 =>
 nck x19 fun p21 =>
 ldM Hs17 (p21.1, p21.2 + 0) fun x23 =>
 ldS Hs17 ((b3, 0).1, (b3, 0).2 + 0) fun x25 =>
 lkM sv (fun x : Option Nat => (mv x : Value)) none x23 x25 (fun x27 is28 =>
 ldS Hs17 (b13, 0) fun x30 =>
 lkM sv (fun x : Sl => (slv x : Value)) Sl.nil x27 x30 (fun x32 is33 =>
 nw ([slv Sl.nil]) (fun b36 H37 =>
 Heap.le Hs17 H37 ∧
 st (b36, 0) (slv x32) (fun H39 =>
 Heap.le Hs17 H39 ∧
 ift (!is33)
 (K false 0 H39)
 (ldP H39 (b1, 0) fun x41 =>
 ldS H39 ((b3, 0).1, (b3, 0).2 + 0) fun x43 =>
 ldS H39 (b13, 0) fun x45 =>
 Qbn C x41 x43 x45 (fun H47 =>
 dr H47 fun Hs48 =>
 ldP Hs48 (b1, 0) fun x50 =>
 ldP Hs48 (b1, 0) fun x52 =>
 nck x52 fun p54 =>
 ldL Hs48 (p54.1, p54.2 + 1) fun x56 =>
 ldS Hs48 ((b3, 0).1, (b3, 0).2 + 0) fun x58 =>
 ldS Hs48 (b13, 0) fun x60 =>
 ldL Hs48 (b36, 0) fun x62 =>
 nw ((Qc.c (⟨x58, x60, x62, (.func (.func 42) (List.toArray []) (List.toArray [pv (some (b1, 0)), pv (some (b3, 0)), pv (some (b13, 0)), pv (some (b36, 0))]) : Value)⟩ : Qc)) ++ []) (fun b65 H66 =>
 Heap.le Hs48 H66 ∧
 apS (Qc.c Qc.zero) 64 x56 (Sl.of (some (b65, 0)) 1 1) (fun r68 H69 =>
 Heap.le Hs48 H69 ∧
 nck x50 fun p70 =>
 st (p70.1, p70.2 + 1) (slv r68) (fun H72 =>
 K true 0 H72) H69) H66) H47) H39)) H37) H15) Hs17) Hs17)) H14) H12) H4)) H2) H
theorem Qdb (C p_l p_r K H) (h : Qb0 C p_l p_r K H) : Qaq C p_l p_r K H := by
 refine Ye Tryz.func15 rfl Tryz.ntmps15 [(0, pv p_l), (1, .agg (Qd.c p_r).toArray)] (Zo (GL.box (v := pv p_l) (cs := [pv p_l]) h trivial rfl rfl rfl ?_))
 intro b1 H2 h
 refine GL.box (v := .agg (Qd.c p_r).toArray) (cs := Qd.c p_r) h trivial rfl rfl rfl ?_
 intro b3 H4 h
 refine Za (Za (GL.nil (GC.seq (Zo (Yl h fun x5 h => ?_)))))
 refine Zv (OV.eqlNil (p := x5) rfl rfl rfl) (GL.nil (Yd h (fun u7 h => ?_) fun u7 h => ?_))
 refine Zo (Za (Za (GL.nil ?_)))
 exact Y2 I3 ⟨false, 2, rfl, h⟩
 refine GC.skip (Zo (Zf (Yl h fun x8 h => ?_)))
 refine Zc h QdW ?_
 rintro _ H12 ⟨r10, r11, rfl, h⟩
 refine Zm (Yv (sv r10) rfl rfl (Yv (.bool r11) rfl rfl (GL.alloc (cs := [sv []]) h trivial rfl rfl rfl ?_)))
 intro b13 H14 h
 refine GL.store (p := (b13, 0)) (v := sv r10) h trivial rfl rfl rfl rfl ?_
 intro H15 h
 refine Za (GL.nil (GC.seq (Zo (Zm (Zv (OV.not rfl) (GL.nil (Yd h (fun u16 h => ?_) fun u16 h => ?_)))))))
 refine Zo (Za (Za (GL.nil ?_)))
 exact Y2 I3 ⟨false, 4, rfl, h⟩
 refine GC.skip (GC.seq ?_)
 obtain ⟨Hs17, hle18, h⟩ := h
 refine GC.any (Hs := Hs17) (by kernel_rfl) hle18 ?_
 obtain ⟨x19, v20, h⟩ := h
 refine Zp 0 rfl (Yo v20) ?_
 obtain ⟨p21, hp22, h⟩ := h
 refine Zp 1 rfl (OV.nilCheck (q := x19) rfl hp22) (Zp 2 rfl Yf ?_)
 obtain ⟨x23, v24, h⟩ := h
 refine Zp 3 rfl (Yo v24) (Zp 4 rfl Yf ?_)
 obtain ⟨x25, v26, h⟩ := h
 refine Zp 5 rfl (Yo v26) ?_
 obtain ⟨x27, is28, v29, h⟩ := h
 refine Zp 6 rfl (OV.lookup1 (v := mv x27) (ke := sv) (enc := (fun x : Option Nat => (mv x : Value))) (z := none) (q := x23) (k := x25) (x := x27) (b := is28) rfl v29 rfl rfl rfl (kText rfl) rfl) ?_
 obtain ⟨x30, v31, h⟩ := h
 refine Zp 7 rfl (Yo v31) ?_
 obtain ⟨x32, is33, v34, h⟩ := h
 refine Zp 8 rfl (OV.lookup2 (v := .tuple #[slv x32, .bool is33]) (ke := sv) (enc := (fun x : Sl => (slv x : Value))) (z := Sl.nil) (q := x27) (k := x30) (x := x32) (b := is33) rfl v34 rfl rfl rfl (kText rfl) rfl) (Zp 9 rfl Ym (Zp 10 rfl (OV.extract (v := slv x32) rfl rfl) (Zp 11 rfl (OV.extract (v := .bool is33) rfl rfl) (GA.eff 12 rfl (by kernel_rfl) (GL.alloc (cs := [slv Sl.nil]) h trivial rfl rfl rfl ?_)))))
 intro b36 H37 h
 obtain ⟨hle35, h⟩ := h
 refine GA.back hle35 (GA.eff 13 rfl (by kernel_rfl) (GL.store (p := (b36, 0)) (v := slv x32) h trivial rfl rfl rfl rfl ?_))
 intro H39 h
 obtain ⟨hle38, h⟩ := h
 refine GA.back hle38 (Zp 14 rfl Ya (GA.done (by kernel_rfl) (GL.nil (GC.seq (Zo (Zm (Zv (OV.not rfl) (GL.nil (Yd h (fun u40 h => ?_) fun u40 h => ?_)))))))))
 refine Zo (Za (Za (GL.nil ?_)))
 exact Y2 I3 ⟨false, 0, rfl, h⟩
 refine GC.skip (Zo (Yl h fun x41 h => ?_))
 refine Zf (Yl h fun x43 h => ?_)
 refine Yl h fun x45 h => ?_
 refine Zc h Qdk ?_
 rintro _ H47 ⟨rfl, h⟩
 refine GL.nil (GC.seq ?_)
 obtain ⟨Hs48, hle49, h⟩ := h
 refine GC.tail (Hs := Hs48) 15 (by kernel_rfl) hle49 (by kernel_rfl) ?_
 obtain ⟨x50, v51, h⟩ := h
 refine Zy 0 rfl (Yo v51) ?_
 obtain ⟨x52, v53, h⟩ := h
 refine Zy 1 rfl (Yo v53) ?_
 obtain ⟨p54, hp55, h⟩ := h
 refine Zy 2 rfl (OV.nilCheck (q := x52) rfl hp55) (Zy 3 rfl Yf ?_)
 obtain ⟨x56, v57, h⟩ := h
 refine Zy 4 rfl (Yo v57) (Zy 5 rfl Yf ?_)
 obtain ⟨x58, v59, h⟩ := h
 refine Zy 6 rfl (Yo v59) ?_
 obtain ⟨x60, v61, h⟩ := h
 refine Zy 7 rfl (Yo v61) ?_
 obtain ⟨x62, v63, h⟩ := h
 refine Zy 8 rfl (Yo v63) (Zy 9 rfl (OV.makeFunc (vs := []) (us := [pv (some (b1, 0)), pv (some (b3, 0)), pv (some (b13, 0)), pv (some (b36, 0))]) rfl rfl) (Zy 10 rfl (OV.build (vs := [(0, sv x58), (1, sv x60), (2, slv x62), (3, .func (.func 42) (List.toArray []) (List.toArray [pv (some (b1, 0)), pv (some (b3, 0)), pv (some (b13, 0)), pv (some (b36, 0))]))]) (v := .agg (Qc.c (⟨x58, x60, x62, (.func (.func 42) (List.toArray []) (List.toArray [pv (some (b1, 0)), pv (some (b3, 0)), pv (some (b13, 0)), pv (some (b36, 0))]) : Value)⟩ : Qc)).toArray) rfl (fun _ => by kernel_rfl)) (GT.eff 11 rfl (by kernel_rfl) rfl (GL.buildSlice (cs := (Qc.c (⟨x58, x60, x62, (.func (.func 42) (List.toArray []) (List.toArray [pv (some (b1, 0)), pv (some (b3, 0)), pv (some (b13, 0)), pv (some (b36, 0))]) : Value)⟩ : Qc)) ++ []) h trivial rfl (vs := [(0, .agg (Qc.c (⟨x58, x60, x62, (.func (.func 42) (List.toArray []) (List.toArray [pv (some (b1, 0)), pv (some (b3, 0)), pv (some (b13, 0)), pv (some (b36, 0))]) : Value)⟩ : Qc)).toArray)]) rfl ⟨69, fun _ => by kernel_rfl⟩ ?_))))
 intro b65 H66 h
 obtain ⟨hle64, h⟩ := h
 refine GT.back hle64 (GT.eff 12 rfl (by kernel_rfl) rfl (GL.appendS (s := x56) (s2 := (Sl.of (some (b65, 0)) 1 1)) (zc := Qc.c Qc.zero) (bytes := 64) h trivial rfl rfl rfl ⟨⟨_, _, _, rfl, rfl, rfl, rfl, rfl, rfl⟩⟩ rfl ?_))
 intro r68 H69 h
 obtain ⟨hle67, h⟩ := h
 refine GT.back hle67 ?_
 obtain ⟨p70, hp71, h⟩ := h
 refine Zy 13 rfl (OV.nilCheck (q := x50) rfl hp71) (Zy 14 rfl Yf (GT.done (by kernel_rfl) ?_))
 show GL _ _ _ _ _ [_] _ _
 refine GL.store (p := (p70.1, p70.2 + 1)) (v := slv r68) h trivial rfl rfl rfl rfl ?_
 intro H72 h
 refine GL.nil (Zo (Za (Za (GL.nil ?_))))
 exact Y2 I3 ⟨true, 0, rfl, h⟩
def QbB (C : Ctx) (p_l : Option (Nat × Nat)) (p_mark : Int) (K : Int → Heap → Prop) (H : Heap) : Prop :=
 Qam C p_l p_mark (fun r1 H2 =>
 ift ((r1 : Int) != 0)
 (K r1 H2)
 (nck p_l fun p4 =>
 ldL H2 (p4.1, p4.2 + 1) fun x6 =>
 slL x6 p_mark (Sl.len x6 : Int) (Sl.cap x6 : Int) 4 fun t8 =>
 Ql C t8 (fun r14 H15 =>
 Rf.rng Tryz.prog C r14 2 H15
 (fun yl19 r20 us K23 H24 => ∃ (u16 : Int) (u17 : Qc), us = [.int .i64 u16, .agg (Qc.c u17).toArray] ∧
 nw (Qc.c Qc.zero) (fun b42 H43 =>
 (List.all (Qc.c u17) Value.oneCell' = true) ∧
 stT (b42, 0) (Qc.c u17) (fun H44 =>
 H44 yl19 = some (true, Rf.lrec r20 .ready none) ∧
 ldV (Heap.put H44 yl19 (Rf.lrec r20 .busy none)) ((b42, 0).1, (b42, 0).2 + 3) fun x48 =>
 callU Tryz.prog C x48 [] (Heap.put H44 yl19 (Rf.lrec r20 .busy none)) (fun v H50 => v = .tuple #[] ∧
 H50 yl19 = some (true, Rf.lrec r20 .busy none) ∧ K23 true (Heap.put H50 yl19 (Rf.lrec r20 .ready none)))) H43) H24)
 (fun D18 H78 =>
 nck p_l fun p57 =>
 ldL H78 (p57.1, p57.2 + 1) fun x59 =>
 slL x59 0 p_mark p_mark 4 fun t61 =>
 nck p_l fun p67 =>
 st (p67.1, p67.2 + 1) (slv t61) (fun H69 =>
 Rf.mk1 H69 D18 (fun Hm70 =>
 K 0 Hm70)) H78)
 (fun D18 H79 =>
 Rf.mk1 H79 D18 (fun Hm74 =>
 K 0 Hm74))) H2)) H
theorem QcX (C p_l p_mark K H) (h : QbB C p_l p_mark K H) : QS C p_l p_mark K H := by
 refine Rf.Spec.enterI Tryz.func17 rfl Tryz.ntmps17 rfl ?_
 refine Rf.GI.sub [(0, pv p_l), (1, .int .i64 p_mark)] ⟨rfl, rfl, trivial⟩ ?_
 refine Rf.GI.seq ?_
 refine Rf.GI.region (fun _ _ h => h) rfl ?_
 refine GL.val trivial rfl (OV.assign (v := .int .i64 0) rfl) ?_
 refine Rf.GI.nil ?_
 refine Rf.GI.seq ?_
 refine Rf.GI.seq ?_
 refine Rf.GI.region (fun _ _ h => h) rfl ?_
 refine GL.val trivial rfl (OV.move (v := pv p_l) rfl) ?_
 refine GL.val trivial rfl (OV.move (v := .int .i64 p_mark) rfl) ?_
 refine GL.call h trivial rfl QcC (vs := [pv p_l, .int .i64 p_mark]) rfl ?_
 rintro _ H2 ⟨r1, rfl, h⟩
 refine GL.val trivial rfl (OV.assign (v := .int .i64 r1) rfl) ?_
 refine Rf.GI.nil ?_
 refine Rf.GI.seq ?_
 refine Rf.GI.region (fun _ _ h => h) rfl ?_
 refine GL.val trivial rfl (OV.move (v := .int .i64 r1) rfl) ?_
 refine GL.val trivial rfl (OV.ibin (v := .bool ((r1 : Int) != 0)) rfl rfl rfl) ?_
 refine Rf.GI.nil ?_
 refine Rf.GI.cond (b := (r1 : Int) != 0) rfl (fun hc3 => ?_) (fun hc3 => ?_)
 ·replace h := And.left h hc3
  refine Rf.GI.seq ?_
  refine Rf.GI.region (fun _ _ h => h) rfl ?_
  refine GL.val trivial rfl (OV.move (v := .int .i64 r1) rfl) ?_
  refine GL.val trivial rfl (OV.assign (v := .int .i64 r1) rfl) ?_
  refine Rf.GI.nil ?_
  exact Rf.GI.ret (fun _ _ hf hs => Qej rfl rfl hf hs ⟨r1, rfl, h⟩)
 ·replace h := And.right h hc3
  refine Rf.GI.skip ?_
  refine Rf.GI.seq ?_
  refine Rf.GI.seq ?_
  refine Rf.GI.region (fun _ _ h => h) rfl ?_
  refine GL.val trivial rfl (OV.move (v := pv p_l) rfl) ?_
  obtain ⟨p4, hp5, h⟩ := h
  refine GL.val trivial rfl (OV.nilCheck (q := p_l) rfl hp5) ?_
  refine GL.val trivial rfl (OV.fieldAddr (p := p4) rfl rfl) ?_
  obtain ⟨x6, hr7, h⟩ := h
  refine GL.val trivial rfl (OV.load (p := (p4.1, p4.2 + 1)) rfl rfl hr7) ?_
  refine GL.val trivial rfl (OV.move (v := .int .i64 p_mark) rfl) ?_
  obtain ⟨h9, h10, h11, h12, t8, h13, h⟩ := h
  refine GL.val trivial rfl (OV.sliceSl (s := x6) h9 h10 h11 h12 h13 rfl rfl rfl rfl rfl rfl rfl (fun h => by first | rfl | cases h) rfl rfl) ?_
  refine GL.call h trivial rfl QaC (vs := [slv t8]) rfl ?_
  rintro _ H15 ⟨r14, rfl, h⟩
  refine Rf.GI.nil ?_
  refine Rf.GI.block ?_
  obtain ⟨gf26, xb27, hv28, hok29, h⟩ := h
  refine Rf.GI.rangeFunc (gf := gf26) (xb := xb27) (congrArg some hv28) hok29 ?_
  intro D18 yl19 r20 hD30 hyl31 hne32 hr22 hra33 hrb34 hfr35
  obtain ⟨Y21, hY36, h⟩ := h D18 yl19 r20 hD30 hyl31 hne32
  have hyy40 : Rf.YldS Tryz.prog C yl19 Y21 := by
   refine Rf.YldS.rounds hfr35 (by rw [hr22]; rfl) ?_
   intro us37 K23 H24 hz41
   obtain ⟨q38, q39, h⟩ := hY36 us37 K23 H24 hz41
   refine ⟨q38, by rw [hr22]; exact q39, ?_⟩
   obtain ⟨u16, u17, rfl, h⟩ := h
   rw [hr22, hra33]
   refine Rf.GI.sub [(22, .agg (Qc.c u17).toArray)] ⟨rfl, trivial⟩ ?_
   refine Rf.GI.region (fun _ _ h => h) rfl ?_
   refine GL.alloc (cs := Qc.c Qc.zero) h trivial rfl rfl rfl ?_
   intro b42 H43 h
   obtain ⟨h145, h⟩ := h
   refine GL.storeT (p := (b42, 0)) (vs := Qc.c u17) h trivial rfl rfl h145 rfl ?_
   intro H44 h
   obtain ⟨q46, h⟩ := h
   refine Rf.RA.mk q46 ?_
   rw [hrb34]
   refine Rf.GI.block ?_
   refine Rf.GI.region (fun _ _ h => h) rfl ?_
   refine GL.val trivial rfl (OV.fieldAddr (p := (b42, 0)) rfl rfl) ?_
   obtain ⟨x48, hr49, h⟩ := h
   refine GL.val trivial rfl (OV.load (p := ((b42, 0).1, (b42, 0).2 + 3)) rfl rfl hr49) ?_
   refine GL.callU (xv := x48) (vs := []) h trivial rfl rfl rfl ?_
   rintro _ H50 ⟨rfl, h⟩
   exact GL.ends (fun _ _ hf hs => ⟨_, hs, h⟩)
  refine Spec.mono (h hyy40) fun u51 H52 h => ?_
  obtain ⟨st53, pend54, k55, k56, ⟨rfl, h⟩ | ⟨rfl, h⟩⟩ := h
  ·refine Rf.RK.nrm (P := Tryz.prog) k55 k56 ?_
   refine Rf.GI.nil_to (fun _ _ h => h) ?_
   refine Rf.GI.seq ?_
   refine Rf.GI.region (fun _ _ h => h) rfl ?_
   refine GL.val trivial rfl (OV.move (v := pv p_l) rfl) ?_
   refine GL.val trivial rfl (OV.move (v := pv p_l) rfl) ?_
   obtain ⟨p57, hp58, h⟩ := h
   refine GL.val trivial rfl (OV.nilCheck (q := p_l) rfl hp58) ?_
   refine GL.val trivial rfl (OV.fieldAddr (p := p57) rfl rfl) ?_
   obtain ⟨x59, hr60, h⟩ := h
   refine GL.val trivial rfl (OV.load (p := (p57.1, p57.2 + 1)) rfl rfl hr60) ?_
   refine GL.val trivial rfl (OV.move (v := .int .i64 p_mark) rfl) ?_
   refine GL.val trivial rfl (OV.move (v := .int .i64 p_mark) rfl) ?_
   obtain ⟨h62, h63, h64, h65, t61, h66, h⟩ := h
   refine GL.val trivial rfl (OV.sliceSl (s := x59) h62 h63 h64 h65 h66 rfl rfl rfl rfl rfl rfl rfl (fun h => by first | rfl | cases h) rfl rfl) ?_
   obtain ⟨p67, hp68, h⟩ := h
   refine GL.val trivial rfl (OV.nilCheck (q := p_l) rfl hp68) ?_
   refine GL.val trivial rfl (OV.fieldAddr (p := p67) rfl rfl) ?_
   refine GL.store (p := (p67.1, p67.2 + 1)) (v := slv t61) h trivial rfl rfl rfl rfl ?_
   intro H69 h
   refine Rf.GI.nil ?_
   refine Rf.GI.seq ?_
   refine Rf.GI.region (fun _ _ h => h) rfl ?_
   refine GL.val trivial rfl (OV.assign (v := .int .i64 0) rfl) ?_
   refine Rf.GI.nil ?_
   obtain ⟨Hm70, hle71, h72, hd73, h⟩ := h
   refine Rf.GI.ret (fun _ _ hf hs => ?_)
   refine Rf.QfM hf hs hle71 h72 hd73 ?_
   exact (fun _ _ hf hs => Qej rfl rfl hf hs ⟨0, rfl, h⟩)
  ·refine Rf.RK.ret k55 k56 ?_
   obtain ⟨Hm74, hle75, h76, hd77, h⟩ := h
   refine (fun _ _ hf hs => ?_)
   refine Rf.QfM hf hs hle75 h76 hd77 ?_
   exact (fun _ _ hf hs => Qej rfl rfl hf hs ⟨0, rfl, h⟩)
def QbD (C : Ctx) (p_l : Option (Nat × Nat)) (p_rel : Str) (K : Sl → Heap → Prop) (H : Heap) : Prop :=
 ift (Option.isNone p_l)
 (K Sl.nil H)
 (nck p_l fun p2 =>
 ldM H (p2.1, p2.2 + 0) fun x4 =>
 lkM sv (fun x : Option Nat => (mv x : Value)) none x4 p_rel (fun x6 is7 =>
 rgM sv (fun x : Sl => (slv x : Value)) x6 (fun b9 H10 =>
 lp (α := Sl) Sl.nil H10 (fun x11 J12 H13 =>
 nxB sv (fun x : Sl => (slv x : Value)) b9 (fun b14 H15 =>
 ift b14
 (enM sv (fun x : Sl => (slv x : Value)) b9 (fun k17 x18 =>
 Qar C x18 (fun r20 H21 =>
 apd ([slv Sl.nil]) 24 x11 ([slv r20]) 1 (fun r22 H23 =>
 J12 r22 H23) H21) H15) H15)
 (Qw C x11 (.func (.func 37) (List.toArray []) (List.toArray []) : Value) (fun H24 =>
 K x11 H24) H15)) H13)) H) H)
theorem QcZ (C p_l p_rel K H) (h : QbD C p_l p_rel K H) : QaH C p_l p_rel K H := by
 refine Ye Tryz.func22 rfl Tryz.ntmps22 [(0, pv p_l), (1, sv p_rel)] (Zo (Za (GL.nil (GC.seq (Zo (Zm (Zv (OV.eqlNil (p := p_l) rfl rfl rfl) (GL.nil (Yd h (fun u1 h => ?_) fun u1 h => ?_)))))))))
 refine Zo (Za (GL.nil ?_))
 exact Y1 I3 ⟨Sl.nil, rfl, h⟩
 refine GC.skip (Zo (Za (GL.nil (GC.seq (Zo (Zm ?_))))))
 obtain ⟨p2, hp3, h⟩ := h
 refine Zv (OV.nilCheck (q := p_l) rfl hp3) (Zf (Yl h fun x4 h => ?_))
 refine Zm ?_
 obtain ⟨x6, is7, v8, h⟩ := h
 refine Zv (OV.lookup1 (v := mv x6) (ke := sv) (enc := (fun x : Option Nat => (mv x : Value))) (z := none) (q := x4) (k := p_rel) (x := x6) (b := is7) rfl v8 rfl rfl rfl (kText rfl) rfl) (GL.rangeQ (ke := sv) (enc := (fun x : Sl => (slv x : Value))) (q := x6) h trivial rfl rfl rfl (kText rfl) ?_)
 intro b9 H10 h
 refine GL.nil (GC.block (Yp h (fun x11 => [(5, slv x11), (16, pv (some (b9, 0)))]) ?_))
 intro x11 H13 J12 h
 refine Zo (GL.nextB (ke := sv) (enc := (fun x : Sl => (slv x : Value))) (it := b9) h trivial rfl rfl rfl rfl rfl ?_)
 intro b14 H15 h
 refine GL.nil (GC.seq (Yd h (fun u16 h => ?_) fun u16 h => ?_))
 refine GC.skip (GC.block (Zo ?_))
 obtain ⟨k17, x18, v19, h⟩ := h
 refine Zv (OV.entryM (ke := sv) (enc := (fun x : Sl => (slv x : Value))) (it := b9) (k := k17) (x := x18) (v := .tuple #[sv k17, slv x18]) rfl v19 rfl) (Yv (slv x18) rfl rfl (Za (GL.nil (GC.region (Zm (Zm (Zc h QbZ ?_)))))))
 rintro _ H21 ⟨r20, rfl, h⟩
 refine GL.appendLit (s := x11) (ys := [slv r20]) (zc := [slv Sl.nil]) (bytes := 24) h trivial rfl (fun _ => trivial) rfl (fun _ => rfl) (fun _ => rfl) (vs := [(0, slv r20)]) rfl ⟨28, fun _ => by kernel_rfl⟩ ⟨⟨_, _, _, rfl, rfl, rfl, rfl, rfl, rfl⟩⟩ rfl rfl ?_
 intro _ r22 H23 h
 refine Za ?_
 exact Yj I3 r22 h
 refine GC.exit_to (fun _ _ h => h) (Zo (Zm (Zc h QaQ ?_)))
 rintro _ H24 ⟨rfl, h⟩
 refine GL.nil (Zo (Zm (Za (GL.nil ?_))))
 exact Y1 I3 ⟨x11, rfl, h⟩
def Qcf (C : Ctx) (p_l : Option (Nat × Nat)) (K : Heap → Prop) (H : Heap) : Prop :=
 ift (!(Option.isNone p_l))
 (nck p_l fun p2 =>
 st (p2.1, p2.2 + 1) (slv Sl.nil) (fun H4 =>
 K H4) H)
 (K H)
theorem Qd5 (C p_l K H) (h : Qcf C p_l K H) : Qbj C p_l K H := by
 refine Ye Tryz.func24 rfl Tryz.ntmps24 [(0, pv p_l)] (Zo (Zm (Zv (OV.neqNil (p := p_l) rfl rfl rfl) (GL.nil (Yd h (fun u1 h => ?_) fun u1 h => ?_)))))
 refine GC.region (Zm ?_)
 obtain ⟨p2, hp3, h⟩ := h
 refine Zv (OV.nilCheck (q := p_l) rfl hp3) (Zf (GL.store (p := (p2.1, p2.2 + 1)) (v := slv Sl.nil) h trivial rfl rfl rfl rfl ?_))
 intro H4 h
 exact GL.ends (fun _ _ hf hs => QA rfl hf hs ⟨rfl, h⟩)
 exact GC.ends (fun _ _ hf hs => QA rfl hf hs ⟨rfl, h⟩)
def Qb1 (C : Ctx) (p_l : Option (Nat × Nat)) (p_r : Qd) (K : Bool → Heap → Prop) (H : Heap) : Prop :=
 nw (Qd.c p_r) (fun b1 H2 =>
 ift (Option.isNone p_l)
 (K false H2)
 (ldL H2 ((b1, 0).1, (b1, 0).2 + 1) fun x4 =>
 Qcw C x4 (fun r6 r7 H8 =>
 nck p_l fun p9 =>
 ldM H8 (p9.1, p9.2 + 0) fun x11 =>
 ldS H8 ((b1, 0).1, (b1, 0).2 + 0) fun x13 =>
 lkM sv (fun x : Option Nat => (mv x : Value)) none x11 x13 (fun x15 is16 =>
 lkM sv (fun x : Sl => (slv x : Value)) Sl.nil x15 r6 (fun x18 is19 =>
 K (r7 && is19) H8) H8) H8) H2)) H
theorem Qdc (C p_l p_r K H) (h : Qb1 C p_l p_r K H) : Q6 C p_l p_r K H := by
 refine Ye Tryz.func25 rfl Tryz.ntmps25 [(0, pv p_l), (1, .agg (Qd.c p_r).toArray)] (Zo (GL.box (v := .agg (Qd.c p_r).toArray) (cs := Qd.c p_r) h trivial rfl rfl rfl ?_))
 intro b1 H2 h
 refine Za (GL.nil (GC.seq (Zo (Zm (Zv (OV.eqlNil (p := p_l) rfl rfl rfl) (GL.nil (Yd h (fun u3 h => ?_) fun u3 h => ?_)))))))
 refine Zo (Za (GL.nil ?_))
 exact Y1 I3 ⟨false, rfl, h⟩
 refine GC.skip (Zo (Zf (Yl h fun x4 h => ?_)))
 refine Zc h QdW ?_
 rintro _ H8 ⟨r6, r7, rfl, h⟩
 refine Zm (Yv (sv r6) rfl rfl (Yv (.bool r7) rfl rfl (Za (Za (GL.nil (GC.seq (GC.draw (by kernel_rfl) (by kernel_rfl) (GQ.val trivial rfl (OV.move (v := pv p_l) rfl) ?_))))))))
 obtain ⟨p9, hp10, h⟩ := h
 refine GQ.val trivial rfl (OV.nilCheck (q := p_l) rfl hp10) (GQ.val trivial rfl (OV.fieldAddr (p := p9) rfl rfl) ?_)
 obtain ⟨x11, v12, h⟩ := h
 refine GQ.val trivial rfl (OV.load (p := (p9.1, p9.2 + 0)) rfl rfl v12) (GQ.val trivial rfl (OV.fieldAddr (p := (b1, 0)) rfl rfl) ?_)
 obtain ⟨x13, v14, h⟩ := h
 refine GQ.val trivial rfl (OV.load (p := ((b1, 0).1, (b1, 0).2 + 0)) rfl rfl v14) ?_
 obtain ⟨x15, is16, v17, h⟩ := h
 refine GQ.val trivial rfl (OV.lookup1 (v := mv x15) (ke := sv) (enc := (fun x : Option Nat => (mv x : Value))) (z := none) (q := x11) (k := x13) (x := x15) (b := is16) rfl v17 rfl rfl rfl (kText rfl) rfl) (GQ.val trivial rfl (OV.move (v := sv r6) rfl) ?_)
 obtain ⟨x18, is19, v20, h⟩ := h
 refine GQ.val trivial rfl (OV.lookup2 (v := .tuple #[slv x18, .bool is19]) (ke := sv) (enc := (fun x : Sl => (slv x : Value))) (z := Sl.nil) (q := x15) (k := r6) (x := x18) (b := is19) rfl v20 rfl rfl rfl (kText rfl) rfl) (GQ.val trivial rfl (OV.move (v := .tuple #[slv x18, .bool is19]) rfl) (GQ.val trivial rfl (OV.extract (v := slv x18) rfl rfl) (GQ.val trivial rfl (OV.extract (v := .bool is19) rfl rfl) (GQ.val trivial rfl (OV.assign (v := slv x18) rfl) (GQ.val trivial rfl (OV.assign (v := .bool is19) rfl) (GQ.nil (GL.nil (Zo (Zm (Zm (GL.cut0 2 [(32, .bool (r7 && is19))] ?_ ?_)))))))))))
 rcases Bool.eq_false_or_eq_true r7 with u21 | u21
 refine Zu u21 Ym (Zt u21 ?_)
 exact GL.jump0 (fun _ _ h => h) () rfl ⟨(by rw [u21]; rfl), trivial⟩
 refine Zk u21 (Zn u21 ?_)
 exact GL.jump0 (fun _ _ h => h) () rfl ⟨(by rw [u21]; rfl), trivial⟩
 refine Za (GL.nil ?_)
 exact Y1 I3 ⟨(r7 && is19), rfl, h⟩
def Qbk (C : Ctx) (p_l : Option (Nat × Nat)) (K : Sl → Heap → Prop) (H : Heap) : Prop :=
 ift (Option.isNone p_l)
 (K Sl.nil H)
 (nck p_l fun p2 =>
 ldM H (p2.1, p2.2 + 0) fun x4 =>
 rgM sv (fun x : Option Nat => (mv x : Value)) x4 (fun b6 H7 =>
 lp (α := Sl) Sl.nil H7 (fun x8 J9 H10 =>
 nxB sv (fun x : Option Nat => (mv x : Value)) b6 (fun b11 H12 =>
 ift b11
 (enM sv (fun x : Option Nat => (mv x : Value)) b6 (fun k14 x15 =>
 apd ([sv []]) 16 x8 ([sv k14]) 1 (fun r17 H18 =>
 J9 r17 H18) H12) H12)
 (QaG C x8 (fun H19 =>
 K x8 H19) H12)) H10)) H)
theorem Qct (C p_l K H) (h : Qbk C p_l K H) : Qal C p_l K H := by
 refine Ye Tryz.func26 rfl Tryz.ntmps26 [(0, pv p_l)] (Zo (Za (GL.nil (GC.seq (Zo (Zm (Zv (OV.eqlNil (p := p_l) rfl rfl rfl) (GL.nil (Yd h (fun u1 h => ?_) fun u1 h => ?_)))))))))
 refine Zo (Za (GL.nil ?_))
 exact Y1 I3 ⟨Sl.nil, rfl, h⟩
 refine GC.skip (Zo (Za (GL.nil (GC.seq (Zo (Zm ?_))))))
 obtain ⟨p2, hp3, h⟩ := h
 refine Zv (OV.nilCheck (q := p_l) rfl hp3) (Zf (Yl h fun x4 h => ?_))
 refine GL.rangeQ (ke := sv) (enc := (fun x : Option Nat => (mv x : Value))) (q := x4) h trivial rfl rfl rfl (kText rfl) ?_
 intro b6 H7 h
 refine GL.nil (GC.block (Yp h (fun x8 => [(3, slv x8), (11, pv (some (b6, 0)))]) ?_))
 intro x8 H10 J9 h
 refine Zo (GL.nextB (ke := sv) (enc := (fun x : Option Nat => (mv x : Value))) (it := b6) h trivial rfl rfl rfl rfl rfl ?_)
 intro b11 H12 h
 refine GL.nil (GC.seq (Yd h (fun u13 h => ?_) fun u13 h => ?_))
 refine GC.skip (GC.block (Zo ?_))
 obtain ⟨k14, x15, v16, h⟩ := h
 refine Zv (OV.entryM (ke := sv) (enc := (fun x : Option Nat => (mv x : Value))) (it := b6) (k := k14) (x := x15) (v := .tuple #[sv k14, mv x15]) rfl v16 rfl) (Yv (sv k14) rfl rfl (Za (GL.nil (GC.region (Zm (Zm (GL.appendLit (s := x8) (ys := [sv k14]) (zc := [sv []]) (bytes := 16) h trivial rfl (fun _ => trivial) rfl (fun _ => rfl) (fun _ => rfl) (vs := [(0, sv k14)]) rfl ⟨9, fun _ => by kernel_rfl⟩ ⟨⟨_, _, _, rfl, rfl, rfl, rfl, rfl, rfl⟩⟩ rfl rfl ?_)))))))
 intro _ r17 H18 h
 refine Za ?_
 exact Yj I3 r17 h
 refine GC.exit_to (fun _ _ h => h) (Zo (Zm (Zc h QbO ?_)))
 rintro _ H19 ⟨rfl, h⟩
 refine GL.nil (Zo (Zm (Za (GL.nil ?_))))
 exact Y1 I3 ⟨x8, rfl, h⟩
def QeL (C : Ctx) (p_rel : Str) (p_n : Int) (K : Qd → Heap → Prop) (H : Heap) : Prop :=
 nw (Qd.c Qd.zero) (fun b1 H2 =>
 nw ((Qa.c (⟨2, p_n, [], Sl.nil⟩ : Qa)) ++ []) (fun b3 H4 =>
 stT (b1, 0) (Qd.c (⟨p_rel, (Sl.of (some (b3, 0)) 1 1)⟩ : Qd)) (fun H5 =>
 ldT H5 Qd.c (b1, 0) fun x6 =>
 K x6 H5) H4) H2) H
theorem Qgm (C p_rel p_n K H) (h : QeL C p_rel p_n K H) : QK C p_rel p_n K H := by
 refine Ye Tryz.func29 rfl Tryz.ntmps29 [(0, sv p_rel), (1, .int .i64 p_n)] (Zo (GL.alloc (cs := Qd.c Qd.zero) h trivial rfl rfl rfl ?_))
 intro b1 H2 h
 refine GL.nil (Zo (Zm (Zm (Zv (OV.build (vs := [(0, .int .u8 2), (1, .int .i64 p_n)]) (v := .agg (Qa.c (⟨2, p_n, [], Sl.nil⟩ : Qa)).toArray) rfl (fun _ => by kernel_rfl)) (GL.buildSlice (cs := (Qa.c (⟨2, p_n, [], Sl.nil⟩ : Qa)) ++ []) h trivial rfl (vs := [(0, .agg (Qa.c (⟨2, p_n, [], Sl.nil⟩ : Qa)).toArray)]) rfl ⟨56, fun _ => by kernel_rfl⟩ ?_)))))
 intro b3 H4 h
 refine Zv (OV.build (vs := [(0, sv p_rel), (1, slv (Sl.of (some (b3, 0)) 1 1))]) (v := .agg (Qd.c (⟨p_rel, (Sl.of (some (b3, 0)) 1 1)⟩ : Qd)).toArray) rfl (fun _ => by kernel_rfl)) (GL.storeT (p := (b1, 0)) (vs := Qd.c (⟨p_rel, (Sl.of (some (b3, 0)) 1 1)⟩ : Qd)) h trivial rfl rfl rfl rfl ?_)
 intro H5 h
 refine GL.nil ?_
 obtain ⟨x6, v7, h⟩ := h
 exact GC.ret (fun _ _ hf hs => Qh9 rfl (RV.cellT (p := (b1, 0)) (cs := Qd.c x6) rfl rfl rfl v7) hf hs ⟨x6, rfl, h⟩)
def QbI (C : Ctx) (p_a : Sl) (p_b : Sl) (K : Bool → Heap → Prop) (H : Heap) : Prop :=
 ift (((Sl.len p_a : Int) : Int) != (Sl.len p_b : Int))
 (K false H)
 (lp (α := Int) 0 H (fun x2 J3 H4 =>
 ift (decide ((x2 : Int) < (Sl.len p_a : Int)))
 (jn (α := Bool) (fun x7 H8 =>
 ift x7
 (K false H8)
 (J3 (w .i64 (x2 + 1)) H8))
 (fun J6 => dr H4 fun Hs10 =>
 ixa p_a x2 fun p12 =>
 ldI Hs10 .i64 ((p12.1, p12.2 + (x2 : Int).toNat * 3).1, (p12.1, p12.2 + (x2 : Int).toNat * 3).2 + 2) fun x17 =>
 ixa p_b x2 fun p19 =>
 ldI Hs10 .i64 ((p19.1, p19.2 + (x2 : Int).toNat * 3).1, (p19.1, p19.2 + (x2 : Int).toNat * 3).2 + 2) fun x24 =>
 ift ((x17 : Int) != x24)
 (J6 true H4)
 (ixa p_a x2 fun p27 =>
 ldS Hs10 (((p27.1, p27.2 + (x2 : Int).toNat * 3).1, (p27.1, p27.2 + (x2 : Int).toNat * 3).2 + 0).1, ((p27.1, p27.2 + (x2 : Int).toNat * 3).1, (p27.1, p27.2 + (x2 : Int).toNat * 3).2 + 0).2 + 0) fun x32 =>
 ixa p_b x2 fun p34 =>
 ldS Hs10 (((p34.1, p34.2 + (x2 : Int).toNat * 3).1, (p34.1, p34.2 + (x2 : Int).toNat * 3).2 + 0).1, ((p34.1, p34.2 + (x2 : Int).toNat * 3).1, (p34.1, p34.2 + (x2 : Int).toNat * 3).2 + 0).2 + 0) fun x39 =>
 ift (!(x32 == x39))
 (J6 true H4)
 (ixa p_a x2 fun p42 =>
 ldL Hs10 (((p42.1, p42.2 + (x2 : Int).toNat * 3).1, (p42.1, p42.2 + (x2 : Int).toNat * 3).2 + 0).1, ((p42.1, p42.2 + (x2 : Int).toNat * 3).1, (p42.1, p42.2 + (x2 : Int).toNat * 3).2 + 0).2 + 1) fun x47 =>
 ixa p_b x2 fun p49 =>
 ldL Hs10 (((p49.1, p49.2 + (x2 : Int).toNat * 3).1, (p49.1, p49.2 + (x2 : Int).toNat * 3).2 + 0).1, ((p49.1, p49.2 + (x2 : Int).toNat * 3).1, (p49.1, p49.2 + (x2 : Int).toNat * 3).2 + 0).2 + 1) fun x54 =>
 QaF C x47 x54 (fun r57 H58 =>
 Heap.le Hs10 H58 ∧
 J6 (!r57) H58) H4))))
 (K true H4)))
theorem QdD (C p_a p_b K H) (h : QbI C p_a p_b K H) : Qad C p_a p_b K H := by
 refine Ye Tryz.func30 rfl Tryz.ntmps30 [(0, slv p_a), (1, slv p_b)] (Zo (Za (GL.nil (GC.seq (Zo (Zm (Zq (Zm (Zq (Zi (.bool (((Sl.len p_a : Int) : Int) != (Sl.len p_b : Int))) (GL.nil (Yd h (fun u1 h => ?_) fun u1 h => ?_))))))))))))
 refine Zo (Za (GL.nil ?_))
 exact Y1 I3 ⟨false, rfl, h⟩
 refine GC.skip (GC.seq (Zo (Za (GL.nil (GC.block (Yp h (fun x2 => [(5, .int .i64 x2), (0, slv p_a), (1, slv p_b)]) ?_))))))
 intro x2 H4 J3 h
 refine GC.seq (Zo (Zm (Zm (Zq (Zi (.bool (decide ((x2 : Int) < (Sl.len p_a : Int)))) (GL.nil (Yd h (fun u5 h => ?_) fun u5 h => ?_)))))))
 refine GC.skip (GC.seq (GC.block (GC.seq ?_)))
 obtain ⟨J6, h, hR9⟩ := h
 refine GC.meet (α := Bool) J6 (fun x7 => [(58, .bool x7), (0, slv p_a), (1, slv p_b), (5, .int .i64 x2)]) ?_ ?_
 obtain ⟨Hs10, hle11, h⟩ := h
 refine GC.any (Hs := Hs10) (by kernel_rfl) hle11 (Zp 0 rfl Ym (Zp 1 rfl Ym ?_))
 obtain ⟨p12, ha13, hb14, u15, hd16, h⟩ := h
 refine Zp 2 rfl (OV.indexAddr rfl rfl rfl rfl ha13 hb14 u15 hd16) (Zp 3 rfl Yf ?_)
 obtain ⟨x17, v18, h⟩ := h
 refine Zp 4 rfl (Yo v18) (Zp 5 rfl Ym (Zp 6 rfl Ym ?_))
 obtain ⟨p19, ha20, hb21, u22, hd23, h⟩ := h
 refine Zp 7 rfl (OV.indexAddr rfl rfl rfl rfl ha20 hb21 u22 hd23) (Zp 8 rfl Yf ?_)
 obtain ⟨x24, v25, h⟩ := h
 refine Zp 9 rfl (Yo v25) (Zp 10 rfl (OV.ibin (v := .bool ((x17 : Int) != x24)) rfl rfl rfl) (Zp 11 rfl Ym ?_))
 rcases h.em with ⟨u26, h⟩ | ⟨u26, h⟩
 refine Zj 12 rfl (Yw u26) (Zj 13 rfl (Yw u26) (Zj 14 rfl (Yw u26) (Zj 15 rfl (Yw u26) (Zj 16 rfl (Yw u26) (Zj 17 rfl (Yw u26) (Zj 18 rfl (Yw u26) (Zj 19 rfl (Yw u26) (Zj 20 rfl (Yw u26) (Zj 21 rfl (Yw u26) (Zj 22 rfl (Yw u26) (Zj 23 rfl (Yw u26) (Zj 24 rfl (Yw u26) (Zp 25 rfl (OV.pickT rfl u26 rfl) (Zp 26 rfl Ym (Zj 27 rfl (Yw rfl) (Zj 28 rfl (Yw rfl) (Zj 29 rfl (Yw rfl) (Zj 30 rfl (Yw rfl) (Zj 31 rfl (Yw rfl) (Zj 32 rfl (Yw rfl) (Zj 33 rfl (Yw rfl) (Zj 34 rfl (Yw rfl) (Zj 35 rfl (Yw rfl) (Zj 36 rfl (Yw rfl) (Zj 37 rfl (Yw rfl) (Zj 38 rfl (Yw rfl) (Zj 39 rfl (Yw rfl) (Zj 40 rfl (Yw rfl) (Zp 41 rfl (OV.pickT rfl rfl rfl) (GA.done (by kernel_rfl) ?_))))))))))))))))))))))))))))))
 exact Yj I3 true h
 refine Zg 12 rfl (Yt u26) Ym (Zg 13 rfl (Yt u26) Ym ?_)
 obtain ⟨p27, ha28, hb29, u30, hd31, h⟩ := h
 refine Zg 14 rfl (Yt u26) (OV.indexAddr rfl rfl rfl rfl ha28 hb29 u30 hd31) (Zg 15 rfl (Yt u26) Yf (Zg 16 rfl (Yt u26) Yf ?_))
 obtain ⟨x32, v33, h⟩ := h
 refine Zg 17 rfl (Yt u26) (Yo v33) (Zg 18 rfl (Yt u26) Ym (Zg 19 rfl (Yt u26) Ym ?_))
 obtain ⟨p34, ha35, hb36, u37, hd38, h⟩ := h
 refine Zg 20 rfl (Yt u26) (OV.indexAddr rfl rfl rfl rfl ha35 hb36 u37 hd38) (Zg 21 rfl (Yt u26) Yf (Zg 22 rfl (Yt u26) Yf ?_))
 obtain ⟨x39, v40, h⟩ := h
 refine Zg 23 rfl (Yt u26) (Yo v40) (Zg 24 rfl (Yt u26) (OV.sbin (a := x32) (b := x39) (v := .bool (!(x32 == x39))) rfl rfl rfl) (Zp 25 rfl (OV.pickF rfl u26 rfl) (Zp 26 rfl Ym ?_)))
 rcases h.em with ⟨u41, h⟩ | ⟨u41, h⟩
 refine Zj 27 rfl (Yw u41) (Zj 28 rfl (Yw u41) (Zj 29 rfl (Yw u41) (Zj 30 rfl (Yw u41) (Zj 31 rfl (Yw u41) (Zj 32 rfl (Yw u41) (Zj 33 rfl (Yw u41) (Zj 34 rfl (Yw u41) (Zj 35 rfl (Yw u41) (Zj 36 rfl (Yw u41) (Zj 37 rfl (Yw u41) (Zj 38 rfl (Yw u41) (Zj 39 rfl (Yw u41) (Zj 40 rfl (Yw u41) (Zp 41 rfl (OV.pickT rfl u41 rfl) (GA.done (by kernel_rfl) ?_)))))))))))))))
 exact Yj I3 true h
 refine Zg 27 rfl (Yt u41) Ym (Zg 28 rfl (Yt u41) Ym ?_)
 obtain ⟨p42, ha43, hb44, u45, hd46, h⟩ := h
 refine Zg 29 rfl (Yt u41) (OV.indexAddr rfl rfl rfl rfl ha43 hb44 u45 hd46) (Zg 30 rfl (Yt u41) Yf (Zg 31 rfl (Yt u41) Yf ?_))
 obtain ⟨x47, v48, h⟩ := h
 refine Zg 32 rfl (Yt u41) (Yo v48) (Zg 33 rfl (Yt u41) Ym (Zg 34 rfl (Yt u41) Ym ?_))
 obtain ⟨p49, ha50, hb51, u52, hd53, h⟩ := h
 refine Zg 35 rfl (Yt u41) (OV.indexAddr rfl rfl rfl rfl ha50 hb51 u52 hd53) (Zg 36 rfl (Yt u41) Yf (Zg 37 rfl (Yt u41) Yf ?_))
 obtain ⟨x54, v55, h⟩ := h
 refine Zg 38 rfl (Yt u41) (Yo v55) (GA.eff 39 rfl (by kernel_rfl) (GL.call h (Yt u41) rfl Qc1 (vs := [slv x47, slv x54]) rfl ?_))
 rintro _ H58 ⟨r57, rfl, h⟩
 obtain ⟨hle56, h⟩ := h
 refine GA.back hle56 (Zg 40 rfl (Yt u41) (OV.not rfl) (Zp 41 rfl (OV.pickF rfl u41 rfl) (GA.done (by kernel_rfl) ?_)))
 exact Yj I3 (!r57) h
 intro x7 H8 h
 replace h := hR9 x7 H8 h
 refine GL.nil (Yd h (fun u59 h => ?_) fun u59 h => ?_)
 refine Zo (Za (GL.nil ?_))
 exact Y1 I3 ⟨false, rfl, h⟩
 refine GC.skip_to (fun _ _ h => h) (GC.region (Zm (Zi (.int .i64 (w .i64 (x2 + 1))) (Za ?_))))
 exact Yj I3 (w .i64 (x2 + 1)) h
 refine GC.exit_to (fun _ _ h => h) (Zo (Za (GL.nil ?_)))
 exact Y1 I3 ⟨true, rfl, h⟩
def Qbm (C : Ctx) (p_l : Option (Nat × Nat)) (p_mark : Int) (K : Int → Heap → Prop) (H : Heap) : Prop :=
 ift (Option.isNone p_l)
 (K 2 H)
 (jn (α := Bool) (fun b2 H10 =>
 ift b2
 (K 1 H10)
 (K 0 H10))
 (fun J3 => ift (decide ((p_mark : Int) < 0))
 (J3 true H)
 (nck p_l fun p6 =>
 ldL H (p6.1, p6.2 + 1) fun x8 =>
 J3 (decide ((p_mark : Int) > (Sl.len x8 : Int))) H)))
theorem Qcv (C p_l p_mark K H) (h : Qbm C p_l p_mark K H) : Qam C p_l p_mark K H := by
 refine Ye Tryz.func31 rfl Tryz.ntmps31 [(0, pv p_l), (1, .int .i64 p_mark)] (Zo (Za (GL.nil (GC.seq (GC.block (Zo (Zm (Zv (OV.eqlNil (p := p_l) rfl rfl rfl) (Za (GL.nil (Yd h (fun u1 h => ?_) fun u1 h => ?_)))))))))))
 refine Zo (Za (GL.nil ?_))
 exact Y1 I3 ⟨2, rfl, h⟩
 refine Zo (Zm (Zi (.bool (decide ((p_mark : Int) < 0))) (Zm ?_)))
 obtain ⟨J3, h, hR4⟩ := h
 refine GL.cut (α := Bool) 8 J3 (fun b2 => [(19, .bool b2)]) ?_ ?_
 rcases h.em with ⟨u5, h⟩ | ⟨u5, h⟩
 refine Zk u5 (Zk u5 (Zk u5 (Zk u5 (Zk u5 (Zk u5 (Zk u5 (Zt u5 ?_)))))))
 exact Yj I3 true h
 refine Zu u5 Ym (Zu u5 Ym ?_)
 obtain ⟨p6, hp7, h⟩ := h
 refine Zu u5 (OV.nilCheck (q := p_l) rfl hp7) (Zu u5 Yf ?_)
 obtain ⟨x8, v9, h⟩ := h
 refine Zu u5 (Yo v9) (Zu u5 (OV.lenSl rfl rfl) (Zu u5 (OV.ibin (v := .bool (decide ((p_mark : Int) > (Sl.len x8 : Int)))) rfl rfl rfl) (Zn u5 ?_)))
 exact Yj I3 (decide ((p_mark : Int) > (Sl.len x8 : Int))) h
 intro b2 H10 h
 replace h := hR4 b2 H10 h
 refine Za (GL.nil (Yd h (fun u11 h => ?_) fun u11 h => ?_))
 refine Zo (Za (GL.nil ?_))
 exact Y1 I3 ⟨1, rfl, h⟩
 refine GC.skip_to (fun _ _ h => h) (Zo (Za (GL.nil ?_)))
 exact Y1 I3 ⟨0, rfl, h⟩
def Qfm (C : Ctx) (p_l : Sl) (K : Sl → Heap → Prop) (H : Heap) : Prop :=
 ift (((Sl.len p_l : Int) : Int) == 0)
 (K Sl.nil H)
 (QB C p_l (fun r2 H3 =>
 lp (α := Int) 0 H3 (fun x4 J5 H6 =>
 ift (decide ((x4 : Int) < (Sl.len r2 : Int)))
 (ixa r2 x4 fun p8 =>
 ldL H6 ((p8.1, p8.2 + (x4 : Int).toNat * 4).1, (p8.1, p8.2 + (x4 : Int).toNat * 4).2 + 3) fun x13 =>
 Qar C x13 (fun r15 H16 =>
 ixa r2 x4 fun p17 =>
 st ((p17.1, p17.2 + (x4 : Int).toNat * 4).1, (p17.1, p17.2 + (x4 : Int).toNat * 4).2 + 3) (slv r15) (fun H22 =>
 J5 (w .i64 (x4 + 1)) H22) H16) H6)
 (K r2 H6))) H)
theorem QgR (C p_l K H) (h : Qfm C p_l K H) : Qar C p_l K H := by
 refine Ye Tryz.func32 rfl Tryz.ntmps32 [(0, slv p_l)] (Zo (Za (GL.nil (GC.seq (Zo (Zm (Zq (Zi (.bool (((Sl.len p_l : Int) : Int) == 0)) (GL.nil (Yd h (fun u1 h => ?_) fun u1 h => ?_))))))))))
 refine Zo (Za (GL.nil ?_))
 exact Y1 I3 ⟨Sl.nil, rfl, h⟩
 refine GC.skip (Zo (Zm (Zc h Qa3 ?_)))
 rintro _ H3 ⟨r2, rfl, h⟩
 refine Za (GL.nil (GC.seq (Zo (Zm (Zq (Zm (GL.nil (GC.block (Yp h (fun x4 => [(11, .int .i64 x4), (0, slv r2), (10, .int .i64 (Sl.len r2 : Int))]) ?_)))))))))
 intro x4 H6 J5 h
 refine Zo (Zi (.bool (decide ((x4 : Int) < (Sl.len r2 : Int)))) (GL.nil (GC.seq (Yd h (fun u7 h => ?_) fun u7 h => ?_))))
 refine GC.skip (GC.seq (GC.block (Zo (Zm (Za (GL.nil (GC.region (Zm (Zm (Zm (Zm (Yx h fun p8 h => ?_))))))))))))
 refine Zf (Yl h fun x13 h => ?_)
 refine Zc h QbZ ?_
 rintro _ H16 ⟨r15, rfl, h⟩
 refine Yx h fun p17 h => ?_
 refine Zf (GL.store (p := ((p17.1, p17.2 + (x4 : Int).toNat * 4).1, (p17.1, p17.2 + (x4 : Int).toNat * 4).2 + 3)) (v := slv r15) h trivial rfl rfl rfl rfl ?_)
 intro H22 h
 refine GL.nil_to (fun _ _ h => h) (GC.region (Zi (.int .i64 (w .i64 (x4 + 1))) (Zm ?_)))
 exact Yj I3 (w .i64 (x4 + 1)) h
 refine GC.exit_to (fun _ _ h => h) (Zo (Zm (Za (GL.nil ?_))))
 exact Y1 I3 ⟨r2, rfl, h⟩
def Qb3 (C : Ctx) (p_a : Qb) (p_b : Qb) (K : Int → Heap → Prop) (H : Heap) : Prop :=
 nw (Qb.c p_a) (fun b1 H2 =>
 nw (Qb.c p_b) (fun b3 H4 =>
 dr H4 fun Hs5 =>
 ldS Hs5 (((b1, 0).1, (b1, 0).2 + 0).1, ((b1, 0).1, (b1, 0).2 + 0).2 + 0) fun x7 =>
 ldS Hs5 (((b3, 0).1, (b3, 0).2 + 0).1, ((b3, 0).1, (b3, 0).2 + 0).2 + 0) fun x9 =>
 ldL Hs5 (((b1, 0).1, (b1, 0).2 + 0).1, ((b1, 0).1, (b1, 0).2 + 0).2 + 1) fun x11 =>
 ldL Hs5 (((b3, 0).1, (b3, 0).2 + 0).1, ((b3, 0).1, (b3, 0).2 + 0).2 + 1) fun x13 =>
 Qv C x7 x9 (fun r16 H17 =>
 Heap.le Hs5 H17 ∧
 Qbg C x11 x13 (fun r19 H20 =>
 Heap.le Hs5 H20 ∧
 nw ([.int .i64 r16, .int .i64 r19]) (fun b22 H23 =>
 Heap.le Hs5 H23 ∧
 Qa6 C (Sl.of (some (b22, 0)) 2 2) (fun r25 H26 =>
 Heap.le Hs5 H26 ∧
 K r25 H26) H23) H20) H17) H4) H2) H
theorem QdS (C p_a p_b K H) (h : Qb3 C p_a p_b K H) : Qbf C p_a p_b K H := by
 refine Ye Tryz.func34 rfl Tryz.ntmps34 [(0, .agg (Qb.c p_a).toArray), (1, .agg (Qb.c p_b).toArray)] (Zo (GL.box (v := .agg (Qb.c p_a).toArray) (cs := Qb.c p_a) h trivial rfl rfl rfl ?_))
 intro b1 H2 h
 refine GL.box (v := .agg (Qb.c p_b).toArray) (cs := Qb.c p_b) h trivial rfl rfl rfl ?_
 intro b3 H4 h
 refine Za (GL.nil (GC.seq ?_))
 obtain ⟨Hs5, hle6, h⟩ := h
 refine GC.any (Hs := Hs5) (by kernel_rfl) hle6 (Zp 0 rfl Yf (Zp 1 rfl Yf ?_))
 obtain ⟨x7, v8, h⟩ := h
 refine Zp 2 rfl (Yo v8) (Zp 3 rfl Yf (Zp 4 rfl Yf ?_))
 obtain ⟨x9, v10, h⟩ := h
 refine Zp 5 rfl (Yo v10) (Zp 7 rfl Yf (Zp 8 rfl Yf ?_))
 obtain ⟨x11, v12, h⟩ := h
 refine Zp 9 rfl (Yo v12) (Zp 10 rfl Yf (Zp 11 rfl Yf ?_))
 obtain ⟨x13, v14, h⟩ := h
 refine Zp 12 rfl (Yo v14) (GA.eff 6 rfl (by kernel_rfl) (Zc h Q0 ?_))
 rintro _ H17 ⟨r16, rfl, h⟩
 obtain ⟨hle15, h⟩ := h
 refine GA.back hle15 (GA.eff 13 rfl (by kernel_rfl) (Zc h Qc3 ?_))
 rintro _ H20 ⟨r19, rfl, h⟩
 obtain ⟨hle18, h⟩ := h
 refine GA.back hle18 (GA.eff 14 rfl (by kernel_rfl) (GL.buildSlice (cs := [.int .i64 r16, .int .i64 r19]) h trivial rfl (vs := [(0, .int .i64 r16), (1, .int .i64 r19)]) rfl ⟨3, fun _ => by kernel_rfl⟩ ?_))
 intro b22 H23 h
 obtain ⟨hle21, h⟩ := h
 refine GA.back hle21 (GA.eff 15 rfl (by kernel_rfl) (Zc h QcQ ?_))
 rintro _ H26 ⟨r25, rfl, h⟩
 obtain ⟨hle24, h⟩ := h
 refine GA.back hle24 (Zp 16 rfl Ya (GA.done (by kernel_rfl) (GL.nil ?_)))
 exact Y1 I3 ⟨r25, rfl, h⟩
def QcT (C : Ctx) (p_vals : Sl) (K : Int → Heap → Prop) (H : Heap) : Prop :=
 lp (α := Int) 0 H (fun x1 J2 H3 =>
 ift (decide ((x1 : Int) < (Sl.len p_vals : Int)))
 (ixa p_vals x1 fun p5 =>
 ldI H3 .i64 (p5.1, p5.2 + (x1 : Int).toNat * 1) fun x10 =>
 ift ((x10 : Int) != 0)
 (K x10 H3)
 (J2 (w .i64 (x1 + 1)) H3))
 (K 0 H3))
theorem Qd1 (C p_vals K H) (h : QcT C p_vals K H) : Qa6 C p_vals K H := by
 refine Ye Tryz.func35 rfl Tryz.ntmps35 [(0, slv p_vals)] (Zo (Za (GL.nil (Zo (Za (GL.nil (GC.seq (Zo (Zm (Zq (Zm (GL.nil (GC.block (Yp h (fun x1 => [(8, .int .i64 x1), (3, .int .i64 0), (6, slv p_vals), (7, .int .i64 (Sl.len p_vals : Int))]) ?_))))))))))))))
 intro x1 H3 J2 h
 refine Zo (Zi (.bool (decide ((x1 : Int) < (Sl.len p_vals : Int)))) (GL.nil (GC.seq (Yd h (fun u4 h => ?_) fun u4 h => ?_))))
 refine GC.skip (GC.seq (GC.block (Zo (Yx h fun p5 h => ?_))))
 refine Yl h fun x10 h => ?_
 refine Za (GL.nil (Zo (Zm (Zm (Zi (.bool ((x10 : Int) != 0)) (GL.nil (Yd h (fun u12 h => ?_) fun u12 h => ?_)))))))
 refine Zo (Zm (Za (GL.nil ?_)))
 exact Y1 I3 ⟨x10, rfl, h⟩
 refine GC.skip_to (fun _ _ h => h) (GC.region (Zi (.int .i64 (w .i64 (x1 + 1))) (Zm ?_)))
 exact Yj I3 (w .i64 (x1 + 1)) h
 refine GC.exit_to (fun _ _ h => h) (Zo (Zm (Za (GL.nil ?_))))
 exact Y1 I3 ⟨0, rfl, h⟩
def QaK (C : Ctx) (p_x : Str) (p_y : Str) (K : Int → Heap → Prop) (H : Heap) : Prop :=
 QW C p_x (fun r1 H2 =>
 QW C p_y (fun r3 H4 =>
 ift r1
 (ift r3
 (K 0 H4)
 (K (-1) H4))
 (ift r3
 (K 1 H4)
 (ift (slt p_x p_y)
 (K (-1) H4)
 (ift (!(slt p_x p_y || (p_x == p_y)))
 (K 1 H4)
 (K 0 H4))))) H2) H
theorem Qbo (C p_x p_y K H) (h : QaK C p_x p_y K H) : Qv C p_x p_y K H := by
 refine Ye Tryz.func36 rfl Tryz.ntmps36 [(0, sv p_x), (1, sv p_y)] (Zo (Za (GL.nil (Zo (Zm (Zc h QbU ?_))))))
 rintro _ H2 ⟨r1, rfl, h⟩
 refine Za (GL.nil (Zo (Zm (Zc h QbU ?_))))
 rintro _ H4 ⟨r3, rfl, h⟩
 refine Za (GL.nil (GC.seq (Zo (Zm (GL.nil (Yd h (fun u5 h => ?_) fun u5 h => ?_))))))
 refine GC.seq (Zo (Zm (GL.nil (Yd h (fun u6 h => ?_) fun u6 h => ?_))))
 refine Zo (Za (GL.nil ?_))
 exact Y1 I3 ⟨0, rfl, h⟩
 refine GC.skip (Zo (Za (GL.nil ?_)))
 exact Y1 I3 ⟨(-1), rfl, h⟩
 refine GC.skip (GC.seq (Zo (Zm (GL.nil (Yd h (fun u7 h => ?_) fun u7 h => ?_)))))
 refine Zo (Za (GL.nil ?_))
 exact Y1 I3 ⟨1, rfl, h⟩
 refine GC.skip (GC.seq (Zo (Zm (Zm (Zv (OV.sbin (a := p_x) (b := p_y) (v := .bool (slt p_x p_y)) rfl rfl rfl) (GL.nil (Yd h (fun u8 h => ?_) fun u8 h => ?_)))))))
 refine Zo (Za (GL.nil ?_))
 exact Y1 I3 ⟨(-1), rfl, h⟩
 refine GC.skip (GC.seq (Zo (Zm (Zm (Zv (OV.sbin (a := p_x) (b := p_y) (v := .bool (!(slt p_x p_y || (p_x == p_y)))) rfl rfl rfl) (GL.nil (Yd h (fun u9 h => ?_) fun u9 h => ?_)))))))
 refine Zo (Za (GL.nil ?_))
 exact Y1 I3 ⟨1, rfl, h⟩
 refine GC.skip (Zo (Za (GL.nil ?_)))
 exact Y1 I3 ⟨0, rfl, h⟩
def Qc6 (C : Ctx) (p_a : Sl) (p_b : Sl) (K : Int → Heap → Prop) (H : Heap) : Prop :=
 QcM C p_a (fun r1 H2 =>
 QcM C p_b (fun r3 H4 =>
 ift ((!r1) || (!r3))
 (Qdf C r1 r3 (fun r7 H8 =>
 K r7 H8) H4)
 (Qbr C p_a p_b (fun r9 H10 =>
 K r9 H10) H4)) H2) H
theorem QeR (C p_a p_b K H) (h : Qc6 C p_a p_b K H) : Qbg C p_a p_b K H := by
 refine Ye Tryz.func37 rfl Tryz.ntmps37 [(0, slv p_a), (1, slv p_b)] (Zo (Za (GL.nil (GC.seq (Zo (Zm (Zc h QeJ ?_)))))))
 rintro _ H2 ⟨r1, rfl, h⟩
 refine Zm (Zc h QeJ ?_)
 rintro _ H4 ⟨r3, rfl, h⟩
 refine Za (Za (GL.nil (Zo (Zm (Zv (OV.not rfl) (Zm (GL.cut0 3 [(16, .bool ((!r1) || (!r3))), (0, slv p_a), (1, slv p_b), (5, .bool r1), (6, .bool r3)] ?_ ?_)))))))
 rcases Zb (!r1) with u5 | u5
 refine Zk u5 (Zk u5 (Zt u5 ?_))
 exact GL.jump0 (fun _ _ h => h) () rfl ⟨(by rw [u5]; rfl), rfl, rfl, rfl, rfl, trivial⟩
 refine Zu u5 Ym (Zu u5 (OV.not rfl) (Zn u5 ?_))
 exact GL.jump0 (fun _ _ h => h) () rfl ⟨(by rw [u5]; rfl), rfl, rfl, rfl, rfl, trivial⟩
 refine GL.nil (Yd h (fun u6 h => ?_) fun u6 h => ?_)
 refine Zo (Zm (Zm (Zc h Qgc ?_)))
 rintro _ H8 ⟨r7, rfl, h⟩
 refine Za (GL.nil ?_)
 exact Y1 I3 ⟨r7, rfl, h⟩
 refine GC.skip (Zo (Zm (Zm (Zc h Qei ?_))))
 rintro _ H10 ⟨r9, rfl, h⟩
 refine Za (GL.nil ?_)
 exact Y1 I3 ⟨r9, rfl, h⟩
def Qfl (C : Ctx) (p_l : Sl) (K : Str → Bool → Heap → Prop) (H : Heap) : Prop :=
 lp (α := Str × Int) ([], 0) H (fun x1 J2 H3 =>
 ift (decide ((x1.2 : Int) < (Sl.len p_l : Int)))
 (ixa p_l x1.2 fun p5 =>
 ldT H3 Qa.c (p5.1, p5.2 + (x1.2 : Int).toNat * 4) fun x10 =>
 nw (Qa.c Qa.zero) (fun b12 H13 =>
 stT (b12, 0) (Qa.c x10) (fun H14 =>
 ldT H14 Qa.c (b12, 0) fun x15 =>
 QQ C x15 (fun r17 H18 =>
 ift ((r17 : Int) != 0)
 (K [] false H18)
 (ldT H18 Qa.c (b12, 0) fun x20 =>
 Qa7 C x20 (fun r22 H23 =>
 catOk r22 ([59] : Str) ∧
 catOk x1.1 (r22 ++ ([59] : Str)) ∧
 J2 ((x1.1 ++ (r22 ++ ([59] : Str))), (w .i64 (x1.2 + 1))) H23) H18)) H14) H13) H3)
 (K x1.1 true H3))
theorem QgQ (C p_l K H) (h : Qfl C p_l K H) : Qcw C p_l K H := by
 refine Ye Tryz.func38 rfl Tryz.ntmps38 [(0, slv p_l)] (Zo (Za (Za (GL.nil (Zo (Za (GL.nil (GC.seq (Zo (Zm (Zq (Zm (GL.nil (GC.block (Yp h (fun x1 => [(4, sv x1.1), (9, .int .i64 x1.2), (7, slv p_l), (8, .int .i64 (Sl.len p_l : Int))]) ?_)))))))))))))))
 intro x1 H3 J2 h
 refine Zo (Zi (.bool (decide ((x1.2 : Int) < (Sl.len p_l : Int)))) (GL.nil (GC.seq (Yd h (fun u4 h => ?_) fun u4 h => ?_))))
 refine GC.skip (GC.seq (GC.block (Zo (Yx h fun p5 h => ?_))))
 obtain ⟨x10, v11, h⟩ := h
 refine Zv (OV.loadT rfl rfl rfl v11) (GL.alloc (cs := Qa.c Qa.zero) h trivial rfl rfl rfl ?_)
 intro b12 H13 h
 refine GL.storeT (p := (b12, 0)) (vs := Qa.c x10) h trivial rfl rfl rfl rfl ?_
 intro H14 h
 refine GL.nil (GC.seq (Zo ?_))
 obtain ⟨x15, v16, h⟩ := h
 refine Zv (OV.loadT rfl rfl rfl v16) (Zc h Qcp ?_)
 rintro _ H18 ⟨r17, rfl, h⟩
 refine Zi (.bool ((r17 : Int) != 0)) (GL.nil (Yd h (fun u19 h => ?_) fun u19 h => ?_))
 refine Zo (Za (Za (GL.nil ?_)))
 exact Y2 I3 ⟨[], false, rfl, h⟩
 refine GC.skip (GC.region (Zm ?_))
 obtain ⟨x20, v21, h⟩ := h
 refine Zv (OV.loadT rfl rfl rfl v21) (Zc h Qgb ?_)
 rintro _ H23 ⟨r22, rfl, h⟩
 obtain ⟨hl24, h⟩ := h
 refine Zv (OV.cat (a := r22) (b := ([59] : Str)) rfl rfl hl24) ?_
 obtain ⟨hl25, h⟩ := h
 refine Zv (OV.cat (a := x1.1) (b := (r22 ++ ([59] : Str))) rfl rfl hl25) (Za (GL.nil_to (fun _ _ h => h) (GC.region (Zi (.int .i64 (w .i64 (x1.2 + 1))) (Zm ?_)))))
 exact Yj I3 ((x1.1 ++ (r22 ++ ([59] : Str))), (w .i64 (x1.2 + 1))) h
 refine GC.exit_to (fun _ _ h => h) (Zo (Zm (Za (Za (GL.nil ?_)))))
 exact Y2 I3 ⟨x1.1, true, rfl, h⟩
def QdN (C : Ctx) (p_l : Option (Nat × Nat)) (p_rel : Str) (p_key : Str) (p_r : Sl) (K : Heap → Prop) (H : Heap) : Prop :=
 jn (α := Unit) (fun x2 H3 =>
 nck p_l fun p20 =>
 ldM H3 (p20.1, p20.2 + 0) fun x22 =>
 lkM sv (fun x : Option Nat => (mv x : Value)) none x22 p_rel (fun x24 is25 =>
 upS sv (fun x : Sl => (slv x : Value)) x24 p_key p_r (fun H27 =>
 K H27) H3) H3)
 (fun J1 => nck p_l fun p5 =>
 ldM H (p5.1, p5.2 + 0) fun x7 =>
 lkM sv (fun x : Option Nat => (mv x : Value)) none x7 p_rel (fun x9 is10 =>
 ift x9.isNone
 (nck p_l fun p13 =>
 ldM H (p13.1, p13.2 + 0) fun x15 =>
 mkM (fun b17 H18 =>
 upS sv (fun x : Option Nat => (mv x : Value)) x15 p_rel (some b17) (fun H19 =>
 J1 () H19) H18) H)
 (J1 () H)) H)
theorem Qfv (C p_l p_rel p_key p_r K H) (h : QdN C p_l p_rel p_key p_r K H) : QbN C p_l p_rel p_key p_r K H := by
 refine Ye Tryz.func39 rfl Tryz.ntmps39 [(0, pv p_l), (1, sv p_rel), (2, sv p_key), (3, slv p_r)] ?_
 obtain ⟨J1, h, hR4⟩ := h
 refine GC.join (α := Unit) J1 (fun _ => [(0, pv p_l), (1, sv p_rel), (2, sv p_key), (3, slv p_r)]) ?_ ?_
 refine Zo (Zm ?_)
 obtain ⟨p5, hp6, h⟩ := h
 refine Zv (OV.nilCheck (q := p_l) rfl hp6) (Zf (Yl h fun x7 h => ?_))
 refine Zm ?_
 obtain ⟨x9, is10, v11, h⟩ := h
 refine Zv (OV.lookup1 (v := mv x9) (ke := sv) (enc := (fun x : Option Nat => (mv x : Value))) (z := none) (q := x7) (k := p_rel) (x := x9) (b := is10) rfl v11 rfl rfl rfl (kText rfl) rfl) (Zv (OV.eqlMap (q := x9) rfl rfl rfl) (GL.nil (Yd h (fun u12 h => ?_) fun u12 h => ?_)))
 refine GC.region (Zm ?_)
 obtain ⟨p13, hp14, h⟩ := h
 refine Zv (OV.nilCheck (q := p_l) rfl hp14) (Zf (Yl h fun x15 h => ?_))
 refine Zm (GL.makeMap h trivial rfl ?_)
 intro b17 H18 h
 refine GL.mapUpdateS (ke := sv) (enc := (fun x : Option Nat => (mv x : Value))) (q := x15) (k := p_rel) (x := (some b17)) h trivial rfl rfl rfl rfl (kText rfl) ?_
 intro H19 h
 exact Yj I3 () h
 exact Yk I3 () h
 intro x2 H3 h
 replace h := hR4 x2 H3 h
 refine GC.region (Zm ?_)
 obtain ⟨p20, hp21, h⟩ := h
 refine Zv (OV.nilCheck (q := p_l) rfl hp21) (Zf (Yl h fun x22 h => ?_))
 refine Zm ?_
 obtain ⟨x24, is25, v26, h⟩ := h
 refine Zv (OV.lookup1 (v := mv x24) (ke := sv) (enc := (fun x : Option Nat => (mv x : Value))) (z := none) (q := x22) (k := p_rel) (x := x24) (b := is25) rfl v26 rfl rfl rfl (kText rfl) rfl) (Zm (Zm (GL.mapUpdateS (ke := sv) (enc := (fun x : Sl => (slv x : Value))) (q := x24) (k := p_key) (x := p_r) h trivial rfl rfl rfl rfl (kText rfl) ?_)))
 intro H27 h
 exact GL.ends (fun _ _ hf hs => QA rfl hf hs ⟨rfl, h⟩)
def QcE (C : Ctx) (v0 : Nat × Nat) (v1 : Nat × Nat) (v2 : Nat × Nat) (K : Heap → Prop) (H : Heap) : Prop :=
 ldP H v0 fun x1 =>
 ldS H (v1.1, v1.2 + 0) fun x3 =>
 ldS H v2 fun x5 =>
 Qbn C x1 x3 x5 (fun H7 =>
 K H7) H
theorem Qet (C v0 v1 v2 K H) (h : QcE C v0 v1 v2 K H) : Qby C v0 v1 v2 K H := by
 refine Ye Tryz.func40 rfl Tryz.ntmps40 [(0, pv (some v0)), (1, pv (some v1)), (2, pv (some v2))] (GC.region (Yl h fun x1 h => ?_))
 refine Zf (Yl h fun x3 h => ?_)
 refine Yl h fun x5 h => ?_
 refine Zc h Qdk ?_
 rintro _ H7 ⟨rfl, h⟩
 exact GL.ends (fun _ _ hf hs => QA rfl hf hs ⟨rfl, h⟩)
def Qdp (C : Ctx) (p_l : Option (Nat × Nat)) (p_rel : Str) (p_key : Str) (K : Heap → Prop) (H : Heap) : Prop :=
 nck p_l fun p1 =>
 ldM H (p1.1, p1.2 + 0) fun x3 =>
 lkM sv (fun x : Option Nat => (mv x : Value)) none x3 p_rel (fun x5 is6 =>
 delS sv (fun x : Sl => (slv x : Value)) x5 p_key (fun H8 =>
 nck p_l fun p9 =>
 ldM H8 (p9.1, p9.2 + 0) fun x11 =>
 lkM sv (fun x : Option Nat => (mv x : Value)) none x11 p_rel (fun x13 is14 =>
 lnM x13 (fun m16 =>
 ift (((m16 : Int) : Int) == 0)
 (nck p_l fun p19 =>
 ldM H8 (p19.1, p19.2 + 0) fun x21 =>
 delS sv (fun x : Option Nat => (mv x : Value)) x21 p_rel (fun H23 =>
 K H23) H8)
 (K H8)) H8) H8) H) H
theorem QeX (C p_l p_rel p_key K H) (h : Qdp C p_l p_rel p_key K H) : Qbn C p_l p_rel p_key K H := by
 refine Ye Tryz.func41 rfl Tryz.ntmps41 [(0, pv p_l), (1, sv p_rel), (2, sv p_key)] (Zo (Zm ?_))
 obtain ⟨p1, hp2, h⟩ := h
 refine Zv (OV.nilCheck (q := p_l) rfl hp2) (Zf (Yl h fun x3 h => ?_))
 refine Zm ?_
 obtain ⟨x5, is6, v7, h⟩ := h
 refine Zv (OV.lookup1 (v := mv x5) (ke := sv) (enc := (fun x : Option Nat => (mv x : Value))) (z := none) (q := x3) (k := p_rel) (x := x5) (b := is6) rfl v7 rfl rfl rfl (kText rfl) rfl) (Zm (GL.deleteM (ke := sv) (enc := (fun x : Sl => (slv x : Value))) (q := x5) (k := p_key) h trivial rfl rfl rfl (kText rfl) ?_))
 intro H8 h
 refine GL.nil (Zo (Zm ?_))
 obtain ⟨p9, hp10, h⟩ := h
 refine Zv (OV.nilCheck (q := p_l) rfl hp10) (Zf (Yl h fun x11 h => ?_))
 refine Zm ?_
 obtain ⟨x13, is14, v15, h⟩ := h
 refine Zv (OV.lookup1 (v := mv x13) (ke := sv) (enc := (fun x : Option Nat => (mv x : Value))) (z := none) (q := x11) (k := p_rel) (x := x13) (b := is14) rfl v15 rfl rfl rfl (kText rfl) rfl) ?_
 obtain ⟨m16, hm17, h⟩ := h
 refine Zv (OV.lenMap (q := x13) (m := m16) hm17 rfl rfl) (Zi (.bool (((m16 : Int) : Int) == 0)) (GL.nil (Yd h (fun u18 h => ?_) fun u18 h => ?_)))
 refine GC.region (Zm ?_)
 obtain ⟨p19, hp20, h⟩ := h
 refine Zv (OV.nilCheck (q := p_l) rfl hp20) (Zf (Yl h fun x21 h => ?_))
 refine Zm (GL.deleteM (ke := sv) (enc := (fun x : Option Nat => (mv x : Value))) (q := x21) (k := p_rel) h trivial rfl rfl rfl (kText rfl) ?_)
 intro H23 h
 exact GL.ends (fun _ _ hf hs => QA rfl hf hs ⟨rfl, h⟩)
 exact GC.ends (fun _ _ hf hs => QA rfl hf hs ⟨rfl, h⟩)
def QcD (C : Ctx) (v0 : Nat × Nat) (v1 : Nat × Nat) (v2 : Nat × Nat) (v3 : Nat × Nat) (K : Heap → Prop) (H : Heap) : Prop :=
 ldP H v0 fun x1 =>
 ldS H (v1.1, v1.2 + 0) fun x3 =>
 ldS H v2 fun x5 =>
 ldL H v3 fun x7 =>
 QbN C x1 x3 x5 x7 (fun H9 =>
 K H9) H
theorem Qes (C v0 v1 v2 v3 K H) (h : QcD C v0 v1 v2 v3 K H) : Qbx C v0 v1 v2 v3 K H := by
 refine Ye Tryz.func42 rfl Tryz.ntmps42 [(0, pv (some v0)), (1, pv (some v1)), (2, pv (some v2)), (3, pv (some v3))] (GC.region (Yl h fun x1 h => ?_))
 refine Zf (Yl h fun x3 h => ?_)
 refine Yl h fun x5 h => ?_
 refine Yl h fun x7 h => ?_
 refine Zc h QdI ?_
 rintro _ H9 ⟨rfl, h⟩
 exact GL.ends (fun _ _ hf hs => QA rfl hf hs ⟨rfl, h⟩)
def Qc5 (C : Ctx) (p_a : Sl) (p_b : Sl) (K : Bool → Heap → Prop) (H : Heap) : Prop :=
 ift (((Sl.len p_a : Int) : Int) != (Sl.len p_b : Int))
 (K false H)
 (lp (α := Int) 0 H (fun x2 J3 H4 =>
 ift (decide ((x2 : Int) < (Sl.len p_a : Int)))
 (dr H4 fun Hs6 =>
 ixa p_a x2 fun p8 =>
 ldT Hs6 Qa.c (p8.1, p8.2 + (x2 : Int).toNat * 4) fun x13 =>
 ixa p_b x2 fun p15 =>
 ldT Hs6 Qa.c (p15.1, p15.2 + (x2 : Int).toNat * 4) fun x20 =>
 QY C x13 x20 (fun r23 H24 =>
 Heap.le Hs6 H24 ∧
 ift (!r23)
 (K false H24)
 (J3 (w .i64 (x2 + 1)) H24)) H4)
 (K true H4)))
theorem QeQ (C p_a p_b K H) (h : Qc5 C p_a p_b K H) : QaF C p_a p_b K H := by
 refine Ye Tryz.func43 rfl Tryz.ntmps43 [(0, slv p_a), (1, slv p_b)] (Zo (Za (GL.nil (GC.seq (Zo (Zm (Zq (Zm (Zq (Zi (.bool (((Sl.len p_a : Int) : Int) != (Sl.len p_b : Int))) (GL.nil (Yd h (fun u1 h => ?_) fun u1 h => ?_))))))))))))
 refine Zo (Za (GL.nil ?_))
 exact Y1 I3 ⟨false, rfl, h⟩
 refine GC.skip (GC.seq (Zo (Za (GL.nil (GC.block (Yp h (fun x2 => [(5, .int .i64 x2), (0, slv p_a), (1, slv p_b)]) ?_))))))
 intro x2 H4 J3 h
 refine GC.seq (Zo (Zm (Zm (Zq (Zi (.bool (decide ((x2 : Int) < (Sl.len p_a : Int)))) (GL.nil (Yd h (fun u5 h => ?_) fun u5 h => ?_)))))))
 refine GC.skip (GC.seq (GC.block (GC.seq ?_)))
 obtain ⟨Hs6, hle7, h⟩ := h
 refine GC.any (Hs := Hs6) (by kernel_rfl) hle7 (Zp 0 rfl Ym (Zp 1 rfl Ym ?_))
 obtain ⟨p8, ha9, hb10, u11, hd12, h⟩ := h
 refine Zp 2 rfl (OV.indexAddr rfl rfl rfl rfl ha9 hb10 u11 hd12) ?_
 obtain ⟨x13, v14, h⟩ := h
 refine Zp 3 rfl (OV.loadT rfl rfl rfl v14) (Zp 4 rfl Ym (Zp 5 rfl Ym ?_))
 obtain ⟨p15, ha16, hb17, u18, hd19, h⟩ := h
 refine Zp 6 rfl (OV.indexAddr rfl rfl rfl rfl ha16 hb17 u18 hd19) ?_
 obtain ⟨x20, v21, h⟩ := h
 refine Zp 7 rfl (OV.loadT rfl rfl rfl v21) (GA.eff 8 rfl (by kernel_rfl) (Zc h Qga ?_))
 rintro _ H24 ⟨r23, rfl, h⟩
 obtain ⟨hle22, h⟩ := h
 refine GA.back hle22 (Zp 9 rfl (OV.not rfl) (GA.done (by kernel_rfl) (GL.nil (Yd h (fun u25 h => ?_) fun u25 h => ?_))))
 refine Zo (Za (GL.nil ?_))
 exact Y1 I3 ⟨false, rfl, h⟩
 refine GC.skip_to (fun _ _ h => h) (GC.region (Zm (Zi (.int .i64 (w .i64 (x2 + 1))) (Za ?_))))
 exact Yj I3 (w .i64 (x2 + 1)) h
 refine GC.exit_to (fun _ _ h => h) (Zo (Za (GL.nil ?_)))
 exact Y1 I3 ⟨true, rfl, h⟩
def QL (C : Ctx) (p_s : Sl) (K : Value → Heap → Prop) (H : Heap) : Prop :=
 nw ([slv p_s]) (fun b1 H2 =>
 K (.func (.func 70) (List.toArray []) (List.toArray [pv (some (b1, 0))]) : Value) H2) H
theorem QaA (C p_s K H) (h : QL C p_s K H) : Ql C p_s K H := by
 refine Ye Tryz.func44 rfl Tryz.ntmps44 [(0, slv p_s)] (Zo (GL.box (v := slv p_s) (cs := [slv p_s]) h trivial rfl rfl rfl ?_))
 intro b1 H2 h
 refine Za (GL.nil (Zo (Zv (OV.makeFunc (vs := []) (us := [pv (some (b1, 0))]) rfl rfl) (Za (GL.nil ?_)))))
 exact Y1 I3 ⟨(.func (.func 70) (List.toArray []) (List.toArray [pv (some (b1, 0))]) : Value), rfl, h⟩
def QT (C : Ctx) (p_s : Sl) (K : Sl → Heap → Prop) (H : Heap) : Prop :=
 ift (Sl.isNil p_s)
 (K Sl.nil H)
 (nw ([]) (fun b2 H3 =>
 apS (Qa.c Qa.zero) 56 (Sl.of (some (b2, 0)) 0 0) p_s (fun r4 H5 =>
 K r4 H5) H3) H)
theorem Qa0 (C p_s K H) (h : QT C p_s K H) : QB C p_s K H := by
 refine Ye Tryz.func60 rfl Tryz.ntmps60 [(0, slv p_s)] (Zo (Za (GL.nil (GC.seq (Zo (Zm (Zv (OV.eqlSl (s := p_s) rfl rfl rfl) (GL.nil (Yd h (fun u1 h => ?_) fun u1 h => ?_)))))))))
 refine Zo (Za (GL.nil ?_))
 exact Y1 I3 ⟨Sl.nil, rfl, h⟩
 refine GC.skip (Zo (GL.buildSlice (cs := []) h trivial rfl (vs := []) rfl ⟨56, fun _ => by kernel_rfl⟩ ?_))
 intro b2 H3 h
 refine Zm (GL.appendS (s := (Sl.of (some (b2, 0)) 0 0)) (s2 := p_s) (zc := Qa.c Qa.zero) (bytes := 56) h trivial rfl rfl rfl ⟨⟨_, _, _, rfl, rfl, rfl, rfl, rfl, rfl⟩⟩ rfl ?_)
 intro r4 H5 h
 refine Za (GL.nil ?_)
 exact Y1 I3 ⟨r4, rfl, h⟩
def Qa5 (C : Ctx) (p_x : Str) (K : Bool → Heap → Prop) (H : Heap) : Prop :=
 K (!(p_x == p_x)) H
theorem QbQ (C p_x K H) (h : Qa5 C p_x K H) : QW C p_x K H := by
 refine Ye Tryz.func63 rfl Tryz.ntmps63 [(0, sv p_x)] (Zo (Za (GL.nil (Zo (Zm (Zm (Zv (OV.sbin (a := p_x) (b := p_x) (v := .bool (!(p_x == p_x))) rfl rfl rfl) (Za (GL.nil ?_)))))))))
 exact Y1 I3 ⟨(!(p_x == p_x)), rfl, h⟩
def QeM (C : Ctx) (p_l : Sl) (K : Bool → Heap → Prop) (H : Heap) : Prop :=
 Qq C p_l (.func (.func 89) (List.toArray []) (List.toArray []) : Value) (fun r1 H2 =>
 K (!r1) H2) H
theorem Qgn (C p_l K H) (h : QeM C p_l K H) : QcM C p_l K H := by
 refine Ye Tryz.func64 rfl Tryz.ntmps64 [(0, slv p_l)] (Zo (Za (GL.nil (Zo (Zm (Zc h Qao ?_))))))
 rintro _ H2 ⟨r1, rfl, h⟩
 refine Zv (OV.not rfl) (Za (GL.nil ?_))
 exact Y1 I3 ⟨(!r1), rfl, h⟩
def Qem (C : Ctx) (p_a : Bool) (p_b : Bool) (K : Int → Heap → Prop) (H : Heap) : Prop :=
 ift (p_a == p_b)
 (K 0 H)
 (ift p_a
 (K (-1) H)
 (K 1 H))
theorem QfX (C p_a p_b K H) (h : Qem C p_a p_b K H) : Qdf C p_a p_b K H := by
 refine Ye Tryz.func65 rfl Tryz.ntmps65 [(0, .bool p_a), (1, .bool p_b)] (Zo (Za (GL.nil (GC.seq (GC.block (Zo (Zm (Zm (Zv (OV.eqlBool rfl rfl rfl) (Za (GL.nil (Yd h (fun u1 h => ?_) fun u1 h => ?_))))))))))))
 refine Zo (Za (GL.nil ?_))
 exact Y1 I3 ⟨0, rfl, h⟩
 refine Zo (Zm (Za (GL.nil (Yd h (fun u2 h => ?_) fun u2 h => ?_))))
 refine Zo (Za (GL.nil ?_))
 exact Y1 I3 ⟨(-1), rfl, h⟩
 refine GC.skip_to (fun _ _ h => h) (Zo (Za (GL.nil ?_)))
 exact Y1 I3 ⟨1, rfl, h⟩
def Qeo (C : Ctx) (p_a : Sl) (p_b : Sl) (K : Int → Heap → Prop) (H : Heap) : Prop :=
 Qe C p_a p_b (.func (.func 91) (List.toArray []) (List.toArray []) : Value) (fun r1 H2 =>
 K r1 H2) H
theorem QfZ (C p_a p_b K H) (h : Qeo C p_a p_b K H) : Qbr C p_a p_b K H := by
 refine Ye Tryz.func66 rfl Tryz.ntmps66 [(0, slv p_a), (1, slv p_b)] (Zo (Za (GL.nil (Zo (Zm (Zm (Zc h QJ ?_)))))))
 rintro _ H2 ⟨r1, rfl, h⟩
 refine Za (GL.nil ?_)
 exact Y1 I3 ⟨r1, rfl, h⟩
def QdO (C : Ctx) (p_v : Qa) (K : Int → Heap → Prop) (H : Heap) : Prop :=
 nw (Qa.c p_v) (fun b1 H2 =>
 ldT H2 Qa.c (b1, 0) fun x3 =>
 QR C x3 65 (fun r5 H6 =>
 ift (decide ((r5 : Int) > 64))
 (K 65 H6)
 (ldT H6 Qa.c (b1, 0) fun x8 =>
 Qu C x8 (fun r10 r11 H12 =>
 ift (!r10)
 (K 4 H12)
 (ift (!r11)
 (K 40 H12)
 (K 0 H12))) H6)) H2) H
theorem Qfw (C p_v K H) (h : QdO C p_v K H) : QQ C p_v K H := by
 refine Ye Tryz.func67 rfl Tryz.ntmps67 [(0, .agg (Qa.c p_v).toArray)] (Zo (GL.box (v := .agg (Qa.c p_v).toArray) (cs := Qa.c p_v) h trivial rfl rfl rfl ?_))
 intro b1 H2 h
 refine Za (GL.nil (GC.seq (Zo ?_)))
 obtain ⟨x3, v4, h⟩ := h
 refine Zv (OV.loadT rfl rfl rfl v4) (Zc h QdJ ?_)
 rintro _ H6 ⟨r5, rfl, h⟩
 refine Zi (.bool (decide ((r5 : Int) > 64))) (GL.nil (Yd h (fun u7 h => ?_) fun u7 h => ?_))
 refine Zo (Za (GL.nil ?_))
 exact Y1 I3 ⟨65, rfl, h⟩
 refine GC.skip (GC.seq (Zo ?_))
 obtain ⟨x8, v9, h⟩ := h
 refine Zv (OV.loadT rfl rfl rfl v9) (Zc h Qb9 ?_)
 rintro _ H12 ⟨r10, r11, rfl, h⟩
 refine Zm (Yv (.bool r10) rfl rfl (Yv (.bool r11) rfl rfl (Za (Za (GL.nil (GC.block (Zo (Zm (Zv (OV.not rfl) (Za (GL.nil (Yd h (fun u13 h => ?_) fun u13 h => ?_))))))))))))
 refine Zo (Za (GL.nil ?_))
 exact Y1 I3 ⟨4, rfl, h⟩
 refine Zo (Zm (Zv (OV.not rfl) (Za (GL.nil (Yd h (fun u14 h => ?_) fun u14 h => ?_)))))
 refine Zo (Za (GL.nil ?_))
 exact Y1 I3 ⟨40, rfl, h⟩
 refine GC.skip_to (fun _ _ h => h) (Zo (Za (GL.nil ?_)))
 exact Y1 I3 ⟨0, rfl, h⟩
def Qel (C : Ctx) (p_v : Qa) (K : Str → Heap → Prop) (H : Heap) : Prop :=
 nw (Qa.c p_v) (fun b1 H2 =>
 ldT H2 Qa.c (b1, 0) fun x3 =>
 QQ C x3 (fun r5 H6 =>
 ift ((r5 : Int) != 0)
 (K [] H6)
 (nwB 136 5 (fun b8 H9 =>
 nw ([.nilFunc]) (fun b10 H11 =>
 nw ([.nilFunc]) (fun b12 H13 =>
 st (b12, 0) (.func (.func 95) (List.toArray []) (List.toArray [pv (some (b8, 0)), pv (some (b10, 0))])) (fun H14 =>
 st (b10, 0) (.func (.func 98) (List.toArray []) (List.toArray [pv (some (b8, 0)), pv (some (b12, 0))])) (fun H15 =>
 ldV H15 (b10, 0) fun x16 =>
 ldT H15 Qa.c (b1, 0) fun x18 =>
 callU Tryz.prog C x16 [.agg (Qa.c x18).toArray] H15 (fun v H20 => v = .tuple #[] ∧
 Qp C (some (b8, 0)) (fun r21 H22 =>
 K r21 H22) H20)) H14) H13) H11) H9) H6)) H2) H
theorem QfW (C p_v K H) (h : Qel C p_v K H) : Qa7 C p_v K H := by
 refine Ye Tryz.func68 rfl Tryz.ntmps68 [(0, .agg (Qa.c p_v).toArray)] (Zo (GL.box (v := .agg (Qa.c p_v).toArray) (cs := Qa.c p_v) h trivial rfl rfl rfl ?_))
 intro b1 H2 h
 refine Za (GL.nil (GC.seq (Zo ?_)))
 obtain ⟨x3, v4, h⟩ := h
 refine Zv (OV.loadT rfl rfl rfl v4) (Zc h Qcp ?_)
 rintro _ H6 ⟨r5, rfl, h⟩
 refine Zi (.bool ((r5 : Int) != 0)) (GL.nil (Yd h (fun u7 h => ?_) fun u7 h => ?_))
 refine Zo (Za (GL.nil ?_))
 exact Y1 I3 ⟨[], rfl, h⟩
 refine GC.skip (Zo (GL.allocB (T := 136) (e := 5) h trivial rfl rfl rfl ?_))
 intro b8 H9 h
 refine GL.nil (Zo (GL.alloc (cs := [.nilFunc]) h trivial rfl rfl rfl ?_))
 intro b10 H11 h
 refine GL.nil (Zo (Zv (OV.makeFunc (vs := []) (us := [pv (some (b8, 0)), pv (some (b10, 0))]) rfl rfl) (GL.alloc (cs := [.nilFunc]) h trivial rfl rfl rfl ?_)))
 intro b12 H13 h
 refine GL.store (p := (b12, 0)) (v := .func (.func 95) (List.toArray []) (List.toArray [pv (some (b8, 0)), pv (some (b10, 0))])) h trivial rfl rfl rfl rfl ?_
 intro H14 h
 refine GL.nil (Zo (Zv (OV.makeFunc (vs := []) (us := [pv (some (b8, 0)), pv (some (b12, 0))]) rfl rfl) (GL.store (p := (b10, 0)) (v := .func (.func 98) (List.toArray []) (List.toArray [pv (some (b8, 0)), pv (some (b12, 0))])) h trivial rfl rfl rfl rfl ?_)))
 intro H15 h
 refine GL.nil (Zo (Yl h fun x16 h => ?_))
 obtain ⟨x18, v19, h⟩ := h
 refine Zv (OV.loadT rfl rfl rfl v19) (GL.callU (xv := x16) (vs := [.agg (Qa.c x18).toArray]) h trivial rfl rfl rfl ?_)
 rintro _ H20 ⟨rfl, h⟩
 refine GL.nil (Zo (Zc h Qcn ?_))
 rintro _ H22 ⟨r21, rfl, h⟩
 refine Za (GL.nil ?_)
 exact Y1 I3 ⟨r21, rfl, h⟩
def Qek (C : Ctx) (p_a : Qa) (p_b : Qa) (K : Bool → Heap → Prop) (H : Heap) : Prop :=
 nw (Qa.c p_a) (fun b1 H2 =>
 nw (Qa.c p_b) (fun b3 H4 =>
 ldI H4 .u8 ((b1, 0).1, (b1, 0).2 + 0) fun x5 =>
 ldI H4 .u8 ((b3, 0).1, (b3, 0).2 + 0) fun x7 =>
 jn (α := Bool) (fun b9 H17 =>
 jn (α := Bool) (fun b18 H26 =>
 jn (α := Bool) (fun b27 H37 =>
 K b27 H37)
 (fun J28 => ift b18
 (ldL H26 ((b1, 0).1, (b1, 0).2 + 3) fun x31 =>
 ldL H26 ((b3, 0).1, (b3, 0).2 + 3) fun x33 =>
 QaF C x31 x33 (fun r35 H36 =>
 J28 r35 H36) H26)
 (J28 false H26)))
 (fun J19 => ift b9
 (ldS H17 ((b1, 0).1, (b1, 0).2 + 2) fun x22 =>
 ldS H17 ((b3, 0).1, (b3, 0).2 + 2) fun x24 =>
 J19 (x22 == x24) H17)
 (J19 false H17)))
 (fun J10 => ift ((x5 : Int) == x7)
 (ldI H4 .i64 ((b1, 0).1, (b1, 0).2 + 1) fun x13 =>
 ldI H4 .i64 ((b3, 0).1, (b3, 0).2 + 1) fun x15 =>
 J10 ((x13 : Int) == x15) H4)
 (J10 false H4))) H2) H
theorem QfV (C p_a p_b K H) (h : Qek C p_a p_b K H) : QY C p_a p_b K H := by
 refine Ye Tryz.func69 rfl Tryz.ntmps69 [(0, .agg (Qa.c p_a).toArray), (1, .agg (Qa.c p_b).toArray)] (Zo (GL.box (v := .agg (Qa.c p_a).toArray) (cs := Qa.c p_a) h trivial rfl rfl rfl ?_))
 intro b1 H2 h
 refine GL.box (v := .agg (Qa.c p_b).toArray) (cs := Qa.c p_b) h trivial rfl rfl rfl ?_
 intro b3 H4 h
 refine Za (GL.nil (Zo (Zf (Yl h fun x5 h => ?_))))
 refine Zf (Yl h fun x7 h => ?_)
 refine Zi (.bool ((x5 : Int) == x7)) (Zm ?_)
 obtain ⟨J10, h, hR11⟩ := h
 refine GL.cut (α := Bool) 6 J10 (fun b9 => [(16, .bool b9), (2, pv (some (b1, 0))), (3, pv (some (b3, 0)))]) ?_ ?_
 rcases h.em with ⟨u12, h⟩ | ⟨u12, h⟩
 refine Zu u12 Yf ?_
 obtain ⟨x13, v14, h⟩ := h
 refine Zu u12 (Yo v14) (Zu u12 Yf ?_)
 obtain ⟨x15, v16, h⟩ := h
 refine Zu u12 (Yo v16) (Zu u12 (OV.ibin (v := .bool ((x13 : Int) == x15)) rfl rfl rfl) (Zt u12 ?_))
 exact Yj I3 ((x13 : Int) == x15) h
 refine Zk u12 (Zk u12 (Zk u12 (Zk u12 (Zk u12 (Zn u12 ?_)))))
 exact Yj I3 false h
 intro b9 H17 h
 replace h := hR11 b9 H17 h
 refine Zm ?_
 obtain ⟨J19, h, hR20⟩ := h
 refine GL.cut (α := Bool) 6 J19 (fun b18 => [(23, .bool b18), (2, pv (some (b1, 0))), (3, pv (some (b3, 0)))]) ?_ ?_
 rcases h.em with ⟨u21, h⟩ | ⟨u21, h⟩
 refine Zu u21 Yf ?_
 obtain ⟨x22, v23, h⟩ := h
 refine Zu u21 (Yo v23) (Zu u21 Yf ?_)
 obtain ⟨x24, v25, h⟩ := h
 refine Zu u21 (Yo v25) (Zu u21 (OV.sbin (a := x22) (b := x24) (v := .bool (x22 == x24)) rfl rfl rfl) (Zt u21 ?_))
 exact Yj I3 (x22 == x24) h
 refine Zk u21 (Zk u21 (Zk u21 (Zk u21 (Zk u21 (Zn u21 ?_)))))
 exact Yj I3 false h
 intro b18 H26 h
 replace h := hR20 b18 H26 h
 refine Zm ?_
 obtain ⟨J28, h, hR29⟩ := h
 refine GL.cut (α := Bool) 6 J28 (fun b27 => [(30, .bool b27)]) ?_ ?_
 rcases h.em with ⟨u30, h⟩ | ⟨u30, h⟩
 refine Zu u30 Yf ?_
 obtain ⟨x31, v32, h⟩ := h
 refine Zu u30 (Yo v32) (Zu u30 Yf ?_)
 obtain ⟨x33, v34, h⟩ := h
 refine Zu u30 (Yo v34) (GL.call h (Yt u30) rfl Qc1 (vs := [slv x31, slv x33]) rfl ?_)
 rintro _ H36 ⟨r35, rfl, h⟩
 refine Zt u30 ?_
 exact Yj I3 r35 h
 refine Zk u30 (Zk u30 (Zk u30 (Zk u30 (Zk u30 (Zn u30 ?_)))))
 exact Yj I3 false h
 intro b27 H37 h
 replace h := hR29 b27 H37 h
 refine Za (GL.nil ?_)
 exact Y1 I3 ⟨b27, rfl, h⟩
def QF (C : Ctx) (Y : List Value → (Bool → Heap → Prop) → Heap → Prop) (v0 : Nat × Nat) (K : Heap → Prop) (H : Heap) : Prop :=
 ldL H v0 fun x1 =>
 lp (α := Int) (w .i64 ((Sl.len x1 : Int) - 1)) H (fun x3 J4 H5 =>
 ift (decide ((x3 : Int) ≥ 0))
 (ldL H5 v0 fun x7 =>
 ixa x7 x3 fun p9 =>
 ldT H5 Qc.c (p9.1, p9.2 + (x3 : Int).toNat * 4) fun x14 =>
 Y [.int .i64 x3, .agg (Qc.c x14).toArray] (fun r16 H17 =>
 ift (!r16)
 (K H17)
 (J4 (w .i64 (x3 - 1)) H17)) H5)
 (K H5))
theorem Qai (C : Ctx) {yl : Nat} {Y : List Value → (Bool → Heap → Prop) → Heap → Prop} (hy : Rf.YldS Tryz.prog C yl Y) (v0 : Nat × Nat) (K : Heap → Prop) (H : Heap) (h : QF C Y v0 K H) : Qat C (.func (.yield yl) (List.toArray []) (List.toArray []) : Value) v0 K H := by
 refine Rf.Spec.enterI Tryz.func70 rfl Tryz.ntmps70 rfl ?_
 refine Rf.GI.sub [(0, .func (.yield yl) (List.toArray []) (List.toArray [])), (1, pv (some v0))] ⟨rfl, rfl, trivial⟩ ?_
 refine Rf.GI.seq ?_
 refine Rf.GI.region (fun _ _ h => h) rfl ?_
 refine Yl h fun x1 h => ?_
 refine Zq (Zi (.int .i64 (w .i64 ((Sl.len x1 : Int) - 1))) (Za ?_))
 refine Rf.GI.nil ?_
 refine Rf.GI.block ?_
 refine Rf.GI.loop (α := Int) h (fun x3 => [(3, .int .i64 x3), (0, .func (.yield yl) (List.toArray []) (List.toArray [])), (1, pv (some v0))]) ⟨rfl, rfl, rfl, trivial⟩ ?_
 intro x3 H5 J4 h
 refine Rf.GI.seq ?_
 refine Rf.GI.seq ?_
 refine Rf.GI.region (fun _ _ h => h) rfl ?_
 refine Zm (Zi (.bool (decide ((x3 : Int) ≥ 0))) ?_)
 refine Rf.GI.nil ?_
 refine Rf.GI.cond (b := decide ((x3 : Int) ≥ 0)) rfl (fun u6 => ?_) (fun u6 => ?_)
 replace h := h.1 u6
 refine Rf.GI.skip ?_
 refine Rf.GI.seq ?_
 refine Rf.GI.block ?_
 refine Rf.GI.seq ?_
 refine Rf.GI.regionL ?_
 refine Rf.GLI.pre 6 (fun _ _ h => h) rfl ?_
 refine Zm (Zm (Yl h fun x7 h => ?_))
 refine Zm (Yx h fun p9 h => ?_)
 obtain ⟨x14, hr15, h⟩ := h
 refine Zv (OV.loadT rfl rfl rfl hr15) ?_
 refine Rf.GI.nilL ?_
 refine Rf.GLI.yield (us := [.int .i64 x3, .agg (Qc.c x14).toArray]) hy h trivial rfl rfl rfl ?_
 intro r16 H17 h
 refine Rf.GLI.ofGL (fun _ _ h => h) rfl ?_
 refine Zv (OV.not rfl) ?_
 refine Rf.GI.nil ?_
 refine Rf.GI.cond (b := !r16) rfl (fun u18 => ?_) (fun u18 => ?_)
 replace h := h.1 u18
 exact Rf.GI.ret (fun _ _ hf hs => QA rfl hf hs ⟨rfl, h⟩)
 replace h := h.2 u18
 refine Rf.GI.skip_to (fun _ _ h => h) ?_
 refine Rf.GI.region (fun _ _ h => h) rfl ?_
 refine Zm (Zi (.int .i64 (w .i64 (x3 - 1))) (Za ?_))
 exact Yj I3 (w .i64 (x3 - 1)) h
 replace h := h.2 u6
 exact Rf.GI.exit_ends (fun _ _ hf hs => QA rfl hf hs ⟨rfl, h⟩)
def QG (C : Ctx) (p_s : Sl) (p_f : Value) (K : Bool → Heap → Prop) (H : Heap) : Prop :=
 Qt C p_s p_f (fun r1 H2 =>
 K (decide ((r1 : Int) ≥ 0)) H2) H
theorem Qaj (C p_s p_f K H) (h : QG C p_s p_f K H) : Qq C p_s p_f K H := by
 refine Ye Tryz.func88 rfl Tryz.ntmps88 [(0, slv p_s), (1, p_f)] (Zo (Za (GL.nil (Zo (Zm (Zm (Zc h QaJ ?_)))))))
 rintro _ H2 ⟨r1, rfl, h⟩
 refine Zi (.bool (decide ((r1 : Int) ≥ 0))) (Za (GL.nil ?_))
 exact Y1 I3 ⟨(decide ((r1 : Int) ≥ 0)), rfl, h⟩
def QdQ (C : Ctx) (p_v : Qa) (K : Bool → Heap → Prop) (H : Heap) : Prop :=
 nw (Qa.c p_v) (fun b1 H2 =>
 ldT H2 Qa.c (b1, 0) fun x3 =>
 QQ C x3 (fun r5 H6 =>
 K ((r5 : Int) != 0) H6) H2) H
theorem Qfy (C p_v K H) (h : QdQ C p_v K H) : Qag C p_v K H := by
 refine Ye Tryz.func89 rfl Tryz.ntmps89 [(0, .agg (Qa.c p_v).toArray)] (Zo (GL.box (v := .agg (Qa.c p_v).toArray) (cs := Qa.c p_v) h trivial rfl rfl rfl ?_))
 intro b1 H2 h
 refine Za (GL.nil (Zo ?_))
 obtain ⟨x3, v4, h⟩ := h
 refine Zv (OV.loadT rfl rfl rfl v4) (Zc h Qcp ?_)
 rintro _ H6 ⟨r5, rfl, h⟩
 refine Zi (.bool ((r5 : Int) != 0)) (Za (GL.nil ?_))
 exact Y1 I3 ⟨((r5 : Int) != 0), rfl, h⟩
def Qo (C : Ctx) (p_s1 : Sl) (p_s2 : Sl) (p_cmp : Value) (K : Int → Heap → Prop) (H : Heap) : Prop :=
 lp (α := Int) 0 H (fun x1 J2 H3 =>
 ift (decide ((x1 : Int) < (Sl.len p_s1 : Int)))
 (ixa p_s1 x1 fun p5 =>
 ldT H3 Qa.c (p5.1, p5.2 + (x1 : Int).toNat * 4) fun x10 =>
 nw (Qa.c Qa.zero) (fun b12 H13 =>
 stT (b12, 0) (Qa.c x10) (fun H14 =>
 ift (decide ((x1 : Int) ≥ (Sl.len p_s2 : Int)))
 (K 1 H14)
 (ixa p_s2 x1 fun p16 =>
 ldT H14 Qa.c (p16.1, p16.2 + (x1 : Int).toNat * 4) fun x21 =>
 nw (Qa.c Qa.zero) (fun b23 H24 =>
 stT (b23, 0) (Qa.c x21) (fun H25 =>
 ldT H25 Qa.c (b12, 0) fun x26 =>
 ldT H25 Qa.c (b23, 0) fun x28 =>
 callU Tryz.prog C p_cmp [.agg (Qa.c x26).toArray, .agg (Qa.c x28).toArray] H25 (fun v H31 => ∃ (r30 : Int), v = .int .i64 r30 ∧
 ift ((r30 : Int) != 0)
 (K r30 H31)
 (J2 (w .i64 (x1 + 1)) H31))) H24) H14)) H13) H3)
 (ift (decide (((Sl.len p_s1 : Int) : Int) < (Sl.len p_s2 : Int)))
 (K (-1) H3)
 (K 0 H3)))
theorem QH (C p_s1 p_s2 p_cmp K H) (h : Qo C p_s1 p_s2 p_cmp K H) : Qe C p_s1 p_s2 p_cmp K H := by
 refine Ye Tryz.func90 rfl Tryz.ntmps90 [(0, slv p_s1), (1, slv p_s2), (2, p_cmp)] (Zo (Za (GL.nil (GC.seq (Zo (Zm (Zq (Zm (GL.nil (GC.block (Yp h (fun x1 => [(13, .int .i64 x1), (0, slv p_s1), (1, slv p_s2), (2, p_cmp), (11, slv p_s1), (12, .int .i64 (Sl.len p_s1 : Int))]) ?_)))))))))))
 intro x1 H3 J2 h
 refine Zo (Zi (.bool (decide ((x1 : Int) < (Sl.len p_s1 : Int)))) (GL.nil (GC.seq (Yd h (fun u4 h => ?_) fun u4 h => ?_))))
 refine GC.skip (GC.seq (GC.block (Zo (Zm (Yx h fun p5 h => ?_)))))
 obtain ⟨x10, v11, h⟩ := h
 refine Zv (OV.loadT rfl rfl rfl v11) (GL.alloc (cs := Qa.c Qa.zero) h trivial rfl rfl rfl ?_)
 intro b12 H13 h
 refine Za (GL.storeT (p := (b12, 0)) (vs := Qa.c x10) h trivial rfl rfl rfl rfl ?_)
 intro H14 h
 refine GL.nil (GC.seq (Zo (Zm (Zm (Zq (Zi (.bool (decide ((x1 : Int) ≥ (Sl.len p_s2 : Int)))) (GL.nil (Yd h (fun u15 h => ?_) fun u15 h => ?_))))))))
 refine Zo (Za (GL.nil ?_))
 exact Y1 I3 ⟨1, rfl, h⟩
 refine GC.skip (Zo (Zm (Zm (Yx h fun p16 h => ?_))))
 obtain ⟨x21, v22, h⟩ := h
 refine Zv (OV.loadT rfl rfl rfl v22) (GL.alloc (cs := Qa.c Qa.zero) h trivial rfl rfl rfl ?_)
 intro b23 H24 h
 refine GL.storeT (p := (b23, 0)) (vs := Qa.c x21) h trivial rfl rfl rfl rfl ?_
 intro H25 h
 refine GL.nil (Zo (Zm ?_))
 obtain ⟨x26, v27, h⟩ := h
 refine Zv (OV.loadT rfl rfl rfl v27) ?_
 obtain ⟨x28, v29, h⟩ := h
 refine Zv (OV.loadT rfl rfl rfl v29) (GL.callU (xv := p_cmp) (vs := [.agg (Qa.c x26).toArray, .agg (Qa.c x28).toArray]) h trivial rfl rfl rfl ?_)
 rintro _ H31 ⟨r30, rfl, h⟩
 refine Za (GL.nil (Zo (Zm (Zi (.bool ((r30 : Int) != 0)) (GL.nil (Yd h (fun u32 h => ?_) fun u32 h => ?_))))))
 refine Zo (Zm (Za (GL.nil ?_)))
 exact Y1 I3 ⟨r30, rfl, h⟩
 refine GC.skip_to (fun _ _ h => h) (GC.region (Zi (.int .i64 (w .i64 (x1 + 1))) (Zm ?_)))
 exact Yj I3 (w .i64 (x1 + 1)) h
 refine GC.exit_to (fun _ _ h => h) (GC.seq (Zo (Zm (Zq (Zm (Zq (Zi (.bool (decide (((Sl.len p_s1 : Int) : Int) < (Sl.len p_s2 : Int)))) (GL.nil ?_))))))))
 refine Yd h (fun u33 h => ?_) fun u33 h => ?_
 refine Zo (Za (GL.nil ?_))
 exact Y1 I3 ⟨(-1), rfl, h⟩
 refine GC.skip (Zo (Za (GL.nil ?_)))
 exact Y1 I3 ⟨0, rfl, h⟩
def Qdt (C : Ctx) (p_x : Qa) (p_y : Qa) (K : Int → Heap → Prop) (H : Heap) : Prop :=
 nw (Qa.c p_x) (fun b1 H2 =>
 nw (Qa.c p_y) (fun b3 H4 =>
 ldT H4 Qa.c (b1, 0) fun x5 =>
 ldT H4 Qa.c (b3, 0) fun x7 =>
 Qz C x5 x7 (fun r9 H10 =>
 K r9 H10) H4) H2) H
theorem Qe1 (C p_x p_y K H) (h : Qdt C p_x p_y K H) : Qas C p_x p_y K H := by
 refine Ye Tryz.func91 rfl Tryz.ntmps91 [(0, .agg (Qa.c p_x).toArray), (1, .agg (Qa.c p_y).toArray)] (Zo (GL.box (v := .agg (Qa.c p_x).toArray) (cs := Qa.c p_x) h trivial rfl rfl rfl ?_))
 intro b1 H2 h
 refine GL.box (v := .agg (Qa.c p_y).toArray) (cs := Qa.c p_y) h trivial rfl rfl rfl ?_
 intro b3 H4 h
 refine Za (GL.nil (Zo ?_))
 obtain ⟨x5, v6, h⟩ := h
 refine Zv (OV.loadT rfl rfl rfl v6) ?_
 obtain ⟨x7, v8, h⟩ := h
 refine Zv (OV.loadT rfl rfl rfl v8) (Zc h QeB ?_)
 rintro _ H10 ⟨r9, rfl, h⟩
 refine Za (GL.nil ?_)
 exact Y1 I3 ⟨r9, rfl, h⟩
def QcF (C : Ctx) (p_v : Qa) (p_w : Qa) (K : Int → Heap → Prop) (H : Heap) : Prop :=
 nw (Qa.c p_v) (fun b1 H2 =>
 nw (Qa.c p_w) (fun b3 H4 =>
 ldI H4 .u8 ((b1, 0).1, (b1, 0).2 + 0) fun x5 =>
 ldI H4 .u8 ((b3, 0).1, (b3, 0).2 + 0) fun x7 =>
 Qa2 C x5 x7 (fun r9 H10 =>
 ift ((r9 : Int) != 0)
 (K r9 H10)
 (ldI H10 .u8 ((b1, 0).1, (b1, 0).2 + 0) fun x12 =>
 ift ((x12 : Int) == 3)
 (ldS H10 ((b1, 0).1, (b1, 0).2 + 2) fun x15 =>
 ldS H10 ((b3, 0).1, (b3, 0).2 + 2) fun x17 =>
 QZ C x15 x17 (fun r19 H20 =>
 K r19 H20) H10)
 (ift ((x12 : Int) == 4)
 (ldS H10 ((b1, 0).1, (b1, 0).2 + 2) fun x22 =>
 ldS H10 ((b3, 0).1, (b3, 0).2 + 2) fun x24 =>
 Qv C x22 x24 (fun r26 H27 =>
 K r26 H27) H10)
 (dr H10 fun Hs28 =>
 ldI Hs28 .i64 ((b1, 0).1, (b1, 0).2 + 1) fun x30 =>
 ldI Hs28 .i64 ((b3, 0).1, (b3, 0).2 + 1) fun x32 =>
 ldS Hs28 ((b1, 0).1, (b1, 0).2 + 2) fun x34 =>
 ldS Hs28 ((b3, 0).1, (b3, 0).2 + 2) fun x36 =>
 ldL Hs28 ((b1, 0).1, (b1, 0).2 + 3) fun x38 =>
 ldL Hs28 ((b3, 0).1, (b3, 0).2 + 3) fun x40 =>
 Qa1 C x30 x32 (fun r43 H44 =>
 Heap.le Hs28 H44 ∧
 Qv C x34 x36 (fun r46 H47 =>
 Heap.le Hs28 H47 ∧
 Qbr C x38 x40 (fun r49 H50 =>
 Heap.le Hs28 H50 ∧
 nw ([.int .i64 r43, .int .i64 r46, .int .i64 r49]) (fun b52 H53 =>
 Heap.le Hs28 H53 ∧
 Qa6 C (Sl.of (some (b52, 0)) 3 3) (fun r55 H56 =>
 Heap.le Hs28 H56 ∧
 K r55 H56) H53) H50) H47) H44) H10)))) H4) H2) H
theorem Qeu (C p_v p_w K H) (h : QcF C p_v p_w K H) : Qz C p_v p_w K H := by
 refine Ye Tryz.func92 rfl Tryz.ntmps92 [(0, .agg (Qa.c p_v).toArray), (1, .agg (Qa.c p_w).toArray)] (Zo (GL.box (v := .agg (Qa.c p_v).toArray) (cs := Qa.c p_v) h trivial rfl rfl rfl ?_))
 intro b1 H2 h
 refine GL.box (v := .agg (Qa.c p_w).toArray) (cs := Qa.c p_w) h trivial rfl rfl rfl ?_
 intro b3 H4 h
 refine Za (GL.nil (GC.seq (Zo (Zf (Yl h fun x5 h => ?_)))))
 refine Zf (Yl h fun x7 h => ?_)
 refine Zc h QdG ?_
 rintro _ H10 ⟨r9, rfl, h⟩
 refine Za (GL.nil (Zo (Zm (Zi (.bool ((r9 : Int) != 0)) (GL.nil (Yd h (fun u11 h => ?_) fun u11 h => ?_))))))
 refine Zo (Zm (Za (GL.nil ?_)))
 exact Y1 I3 ⟨r9, rfl, h⟩
 refine GC.skip (GC.seq (Zo (Zf (Yl h fun x12 h => ?_))))
 refine GL.nil (GC.block (Zo (Zi (.bool ((x12 : Int) == 3)) (Za (GL.nil (Yd h (fun u14 h => ?_) fun u14 h => ?_))))))
 refine Zo (Zf (Yl h fun x15 h => ?_))
 refine Zf (Yl h fun x17 h => ?_)
 refine Zc h Qeg ?_
 rintro _ H20 ⟨r19, rfl, h⟩
 refine Za (GL.nil ?_)
 exact Y1 I3 ⟨r19, rfl, h⟩
 refine Zo (Zi (.bool ((x12 : Int) == 4)) (Za (GL.nil (Yd h (fun u21 h => ?_) fun u21 h => ?_))))
 refine Zo (Zf (Yl h fun x22 h => ?_))
 refine Zf (Yl h fun x24 h => ?_)
 refine Zc h Q0 ?_
 rintro _ H27 ⟨r26, rfl, h⟩
 refine Za (GL.nil ?_)
 exact Y1 I3 ⟨r26, rfl, h⟩
 refine GC.skip_to (fun _ _ h => h) (GC.seq ?_)
 obtain ⟨Hs28, hle29, h⟩ := h
 refine GC.any (Hs := Hs28) (by kernel_rfl) hle29 (Zp 0 rfl Yf ?_)
 obtain ⟨x30, v31, h⟩ := h
 refine Zp 1 rfl (Yo v31) (Zp 2 rfl Yf ?_)
 obtain ⟨x32, v33, h⟩ := h
 refine Zp 3 rfl (Yo v33) (Zp 5 rfl Yf ?_)
 obtain ⟨x34, v35, h⟩ := h
 refine Zp 6 rfl (Yo v35) (Zp 7 rfl Yf ?_)
 obtain ⟨x36, v37, h⟩ := h
 refine Zp 8 rfl (Yo v37) (Zp 10 rfl Yf ?_)
 obtain ⟨x38, v39, h⟩ := h
 refine Zp 11 rfl (Yo v39) (Zp 12 rfl Yf ?_)
 obtain ⟨x40, v41, h⟩ := h
 refine Zp 13 rfl (Yo v41) (GA.eff 4 rfl (by kernel_rfl) (Zc h QdF ?_))
 rintro _ H44 ⟨r43, rfl, h⟩
 obtain ⟨hle42, h⟩ := h
 refine GA.back hle42 (GA.eff 9 rfl (by kernel_rfl) (Zc h Q0 ?_))
 rintro _ H47 ⟨r46, rfl, h⟩
 obtain ⟨hle45, h⟩ := h
 refine GA.back hle45 (GA.eff 14 rfl (by kernel_rfl) (Zc h Qei ?_))
 rintro _ H50 ⟨r49, rfl, h⟩
 obtain ⟨hle48, h⟩ := h
 refine GA.back hle48 (GA.eff 15 rfl (by kernel_rfl) (GL.buildSlice (cs := [.int .i64 r43, .int .i64 r46, .int .i64 r49]) h trivial rfl (vs := [(0, .int .i64 r43), (1, .int .i64 r46), (2, .int .i64 r49)]) rfl ⟨3, fun _ => by kernel_rfl⟩ ?_))
 intro b52 H53 h
 obtain ⟨hle51, h⟩ := h
 refine GA.back hle51 (GA.eff 16 rfl (by kernel_rfl) (Zc h QcQ ?_))
 rintro _ H56 ⟨r55, rfl, h⟩
 obtain ⟨hle54, h⟩ := h
 refine GA.back hle54 (Zp 17 rfl Ya (GA.done (by kernel_rfl) (GL.nil ?_)))
 exact Y1 I3 ⟨r55, rfl, h⟩
def QdP (C : Ctx) (p_v : Qa) (p_most : Int) (K : Int → Heap → Prop) (H : Heap) : Prop :=
 nw (Qa.c p_v) (fun b1 H2 =>
 jn (α := Int) (fun x4 H5 =>
 K (w .i64 (x4 + 1)) H5)
 (fun J3 => ldL H2 ((b1, 0).1, (b1, 0).2 + 3) fun x7 =>
 lp (α := Int × Int) (0, 0) H2 (fun x9 J10 H11 =>
 ift (decide ((x9.2 : Int) < (Sl.len x7 : Int)))
 (ixa x7 x9.2 fun p13 =>
 ldT H11 Qa.c (p13.1, p13.2 + (x9.2 : Int).toNat * 4) fun x18 =>
 nw (Qa.c Qa.zero) (fun b20 H21 =>
 stT (b20, 0) (Qa.c x18) (fun H22 =>
 ift (decide ((x9.1 : Int) ≥ p_most))
 (J3 x9.1 H22)
 (ldT H22 Qa.c (b20, 0) fun x24 =>
 QR C x24 (w .i64 (p_most - 1)) (fun r26 H27 =>
 J10 ((if r26 > x9.1 then r26 else x9.1 : Int), (w .i64 (x9.2 + 1))) H27) H22)) H21) H11)
 (J3 x9.1 H11)))) H
theorem Qfx (C p_v p_most K H) (h : QdP C p_v p_most K H) : QR C p_v p_most K H := by
 refine Ye Tryz.func93 rfl Tryz.ntmps93 [(0, .agg (Qa.c p_v).toArray), (1, .int .i64 p_most)] (Zo (GL.box (v := .agg (Qa.c p_v).toArray) (cs := Qa.c p_v) h trivial rfl rfl rfl ?_))
 intro b1 H2 h
 refine Za (GL.nil (Zo (Za (GL.nil ?_))))
 obtain ⟨J3, h, hR6⟩ := h
 refine GC.join (α := Int) J3 (fun x4 => [(5, .int .i64 x4)]) ?_ ?_
 refine Zo (Zf (Yl h fun x7 h => ?_))
 refine Zq (Zm (GL.nil (GC.block (Yp h (fun x9 => [(5, .int .i64 x9.1), (11, .int .i64 x9.2), (1, .int .i64 p_most), (9, slv x7), (10, .int .i64 (Sl.len x7 : Int))]) ?_))))
 intro x9 H11 J10 h
 refine Zo (Zi (.bool (decide ((x9.2 : Int) < (Sl.len x7 : Int)))) (GL.nil (GC.seq (Yd h (fun u12 h => ?_) fun u12 h => ?_))))
 refine GC.skip (GC.seq (GC.block (Zo (Yx h fun p13 h => ?_))))
 obtain ⟨x18, v19, h⟩ := h
 refine Zv (OV.loadT rfl rfl rfl v19) (GL.alloc (cs := Qa.c Qa.zero) h trivial rfl rfl rfl ?_)
 intro b20 H21 h
 refine GL.storeT (p := (b20, 0)) (vs := Qa.c x18) h trivial rfl rfl rfl rfl ?_
 intro H22 h
 refine GL.nil (GC.seq (Zo (Zm (Zm (Zi (.bool (decide ((x9.1 : Int) ≥ p_most))) (GL.nil (Yd h (fun u23 h => ?_) fun u23 h => ?_)))))))
 exact GC.exit_jump (fun _ _ h => h) x9.1 h ⟨rfl, trivial⟩
 refine GC.skip (GC.region (Zm ?_))
 obtain ⟨x24, v25, h⟩ := h
 refine Zv (OV.loadT rfl rfl rfl v25) (Zm (Zi (.int .i64 (w .i64 (p_most - 1))) (Zc h QdJ ?_)))
 rintro _ H27 ⟨r26, rfl, h⟩
 refine Zv (OV.maxI rfl rfl) (Za (GL.nil_to (fun _ _ h => h) (GC.region (Zi (.int .i64 (w .i64 (x9.2 + 1))) (Zm ?_)))))
 exact Yj I3 ((if r26 > x9.1 then r26 else x9.1 : Int), (w .i64 (x9.2 + 1))) h
 exact GC.exit_jump (fun _ _ h => h) x9.1 h ⟨rfl, trivial⟩
 intro x4 H5 h
 replace h := hR6 x4 H5 h
 refine Zo (Zm (Zi (.int .i64 (w .i64 (x4 + 1))) (Za (GL.nil ?_))))
 exact Y1 I3 ⟨(w .i64 (x4 + 1)), rfl, h⟩
def Qcg (C : Ctx) (p_v : Qa) (K : Bool → Bool → Heap → Prop) (H : Heap) : Prop :=
 nw (Qa.c p_v) (fun b1 H2 =>
 ldI H2 .i64 ((b1, 0).1, (b1, 0).2 + 1) fun x3 =>
 jn (α := Bool) (fun b5 H11 =>
 jn (α := Bool) (fun b12 H18 =>
 jn (α := Bool × Bool) (fun x20 H21 =>
 ldL H21 ((b1, 0).1, (b1, 0).2 + 3) fun x149 =>
 lp (α := Bool × Bool × Int) (x20.1, x20.2, 0) H21 (fun x151 J152 H153 =>
 ift (decide ((x151.2.2 : Int) < (Sl.len x149 : Int)))
 (ixa x149 x151.2.2 fun p155 =>
 ldT H153 Qa.c (p155.1, p155.2 + (x151.2.2 : Int).toNat * 4) fun x160 =>
 nw (Qa.c Qa.zero) (fun b162 H163 =>
 stT (b162, 0) (Qa.c x160) (fun H164 =>
 ldT H164 Qa.c (b162, 0) fun x165 =>
 Qu C x165 (fun r167 r168 H169 =>
 J152 ((x151.1 && r167), (x151.2.1 && r168), (w .i64 (x151.2.2 + 1))) H169) H164) H163) H153)
 (K x151.1 x151.2.1 H153)))
 (fun J19 => ldI H18 .u8 ((b1, 0).1, (b1, 0).2 + 0) fun x23 =>
 ift ((x23 : Int) == 1)
 (ldI H18 .i64 ((b1, 0).1, (b1, 0).2 + 1) fun x26 =>
 jn (α := Bool) (fun b28 H34 =>
 jn (α := Bool) (fun b35 H41 =>
 jn (α := Bool) (fun b42 H48 =>
 J19 (b42, true) H48)
 (fun J43 => ift b35
 (ldL H41 ((b1, 0).1, (b1, 0).2 + 3) fun x46 =>
 J43 (((Sl.len x46 : Int) : Int) == 0) H41)
 (J43 false H41)))
 (fun J36 => ift b28
 (ldS H34 ((b1, 0).1, (b1, 0).2 + 2) fun x39 =>
 J36 (x39 == ([] : Str)) H34)
 (J36 false H34)))
 (fun J29 => ift ((x26 : Int) == 0)
 (J29 true H18)
 (ldI H18 .i64 ((b1, 0).1, (b1, 0).2 + 1) fun x32 =>
 J29 ((x32 : Int) == 1) H18)))
 (ift ((x23 : Int) == 2)
 (ldS H18 ((b1, 0).1, (b1, 0).2 + 2) fun x50 =>
 jn (α := Bool) (fun b52 H58 =>
 J19 (b52, true) H58)
 (fun J53 => ift (x50 == ([] : Str))
 (ldL H18 ((b1, 0).1, (b1, 0).2 + 3) fun x56 =>
 J53 (((Sl.len x56 : Int) : Int) == 0) H18)
 (J53 false H18)))
 (ift ((x23 : Int) == 3)
 (ldS H18 ((b1, 0).1, (b1, 0).2 + 2) fun x60 =>
 Qcl C x60 (fun r62 r63 H64 =>
 jn (α := Bool) (fun b65 H71 =>
 jn (α := Bool) (fun b72 H78 =>
 J19 (b72, (decide ((r62 : Int) ≤ 200))) H78)
 (fun J73 => ift b65
 (ldL H71 ((b1, 0).1, (b1, 0).2 + 3) fun x76 =>
 J73 (((Sl.len x76 : Int) : Int) == 0) H71)
 (J73 false H71)))
 (fun J66 => ift r63
 (ldI H64 .i64 ((b1, 0).1, (b1, 0).2 + 1) fun x69 =>
 J66 ((x69 : Int) == 0) H64)
 (J66 false H64))) H18)
 (ift ((x23 : Int) == 4)
 (jn (α := Bool × Bool) (fun x81 H82 =>
 J19 (x81.1, x81.2) H82)
 (fun J80 => dr H18 fun Hs84 =>
 ldI Hs84 .i64 ((b1, 0).1, (b1, 0).2 + 1) fun x86 =>
 ldS Hs84 ((b1, 0).1, (b1, 0).2 + 2) fun x88 =>
 ift ((x86 : Int) == 0)
 (ldL Hs84 ((b1, 0).1, (b1, 0).2 + 3) fun x91 =>
 J80 ((((Sl.len x91 : Int) : Int) == 0), (decide (((List.length x88 : Int) : Int) ≤ 4096))) H18)
 (J80 (false, (decide (((List.length x88 : Int) : Int) ≤ 4096))) H18)))
 (ift ((x23 : Int) == 5)
 (jn (α := Bool × Bool) (fun x95 H96 =>
 J19 (x95.1, x95.2) H96)
 (fun J94 => dr H18 fun Hs98 =>
 ldI Hs98 .i64 ((b1, 0).1, (b1, 0).2 + 1) fun x100 =>
 ldL Hs98 ((b1, 0).1, (b1, 0).2 + 3) fun x102 =>
 ift ((x100 : Int) == 0)
 (ldS Hs98 ((b1, 0).1, (b1, 0).2 + 2) fun x105 =>
 ift (x105 == ([] : Str))
 (ldL Hs98 ((b1, 0).1, (b1, 0).2 + 3) fun x108 =>
 J94 ((((Sl.len x108 : Int) : Int) != 1), (decide (((Sl.len x102 : Int) : Int) ≤ 16))) H18)
 (J94 (false, (decide (((Sl.len x102 : Int) : Int) ≤ 16))) H18))
 (J94 (false, (decide (((Sl.len x102 : Int) : Int) ≤ 16))) H18)))
 (ift ((x23 : Int) == 6)
 (ldS H18 ((b1, 0).1, (b1, 0).2 + 2) fun x111 =>
 QcK C x111 [46] (fun r113 r114 r115 H116 =>
 jn (α := Bool × Bool) (fun x118 H119 =>
 J19 (x118.1, x118.2) H119)
 (fun J117 => dr H116 fun Hs121 =>
 ldI Hs121 .i64 ((b1, 0).1, (b1, 0).2 + 1) fun x123 =>
 ldL Hs121 ((b1, 0).1, (b1, 0).2 + 3) fun x125 =>
 ift ((x123 : Int) == 0)
 (Qa8 C r113 (fun r129 H130 =>
 Heap.le Hs121 H130 ∧
 ift r129
 (ift r115
 (Qa8 C r114 (fun r134 H135 =>
 Heap.le Hs121 H135 ∧
 ift r134
 (J117 (true, (decide (((Sl.len x125 : Int) : Int) ≤ 8))) H135)
 (ift (!r115)
 (ldS Hs121 ((b1, 0).1, (b1, 0).2 + 2) fun x138 =>
 ift (!(x138 == ([116, 114, 117, 101] : Str)))
 (ldS Hs121 ((b1, 0).1, (b1, 0).2 + 2) fun x141 =>
 J117 ((!(x141 == ([102, 97, 108, 115, 101] : Str))), (decide (((Sl.len x125 : Int) : Int) ≤ 8))) H135)
 (J117 (false, (decide (((Sl.len x125 : Int) : Int) ≤ 8))) H135))
 (J117 (false, (decide (((Sl.len x125 : Int) : Int) ≤ 8))) H135))) H130)
 (ift (!r115)
 (ldS Hs121 ((b1, 0).1, (b1, 0).2 + 2) fun x144 =>
 ift (!(x144 == ([116, 114, 117, 101] : Str)))
 (ldS Hs121 ((b1, 0).1, (b1, 0).2 + 2) fun x147 =>
 J117 ((!(x147 == ([102, 97, 108, 115, 101] : Str))), (decide (((Sl.len x125 : Int) : Int) ≤ 8))) H130)
 (J117 (false, (decide (((Sl.len x125 : Int) : Int) ≤ 8))) H130))
 (J117 (false, (decide (((Sl.len x125 : Int) : Int) ≤ 8))) H130)))
 (J117 (false, (decide (((Sl.len x125 : Int) : Int) ≤ 8))) H130)) H116)
 (J117 (false, (decide (((Sl.len x125 : Int) : Int) ≤ 8))) H116))) H18)
 (J19 (false, true) H18))))))))
 (fun J13 => ift b5
 (ldL H11 ((b1, 0).1, (b1, 0).2 + 3) fun x16 =>
 J13 (((Sl.len x16 : Int) : Int) == 0) H11)
 (J13 false H11)))
 (fun J6 => ift ((x3 : Int) == 0)
 (ldS H2 ((b1, 0).1, (b1, 0).2 + 2) fun x9 =>
 J6 (x9 == ([] : Str)) H2)
 (J6 false H2))) H
theorem Qd7 (C p_v K H) (h : Qcg C p_v K H) : Qu C p_v K H := by
 refine Ye Tryz.func94 rfl Tryz.ntmps94 [(0, .agg (Qa.c p_v).toArray)] (Zo (GL.box (v := .agg (Qa.c p_v).toArray) (cs := Qa.c p_v) h trivial rfl rfl rfl ?_))
 intro b1 H2 h
 refine Za (Za (GL.nil (Zo (Zf (Yl h fun x3 h => ?_)))))
 refine Zi (.bool ((x3 : Int) == 0)) (Zm ?_)
 obtain ⟨J6, h, hR7⟩ := h
 refine GL.cut (α := Bool) 4 J6 (fun b5 => [(20, .bool b5), (1, pv (some (b1, 0)))]) ?_ ?_
 rcases h.em with ⟨u8, h⟩ | ⟨u8, h⟩
 refine Zu u8 Yf ?_
 obtain ⟨x9, v10, h⟩ := h
 refine Zu u8 (Yo v10) (Zu u8 (OV.sbin (a := x9) (b := ([] : Str)) (v := .bool (x9 == ([] : Str))) rfl rfl rfl) (Zt u8 ?_))
 exact Yj I3 (x9 == ([] : Str)) h
 refine Zk u8 (Zk u8 (Zk u8 (Zn u8 ?_)))
 exact Yj I3 false h
 intro b5 H11 h
 replace h := hR7 b5 H11 h
 refine Zm ?_
 obtain ⟨J13, h, hR14⟩ := h
 refine GL.cut (α := Bool) 5 J13 (fun b12 => [(26, .bool b12), (1, pv (some (b1, 0)))]) ?_ ?_
 rcases h.em with ⟨u15, h⟩ | ⟨u15, h⟩
 refine Zu u15 Yf ?_
 obtain ⟨x16, v17, h⟩ := h
 refine Zu u15 (Yo v17) (Zu u15 (OV.lenSl rfl rfl) (Zu u15 (OV.ibin (v := .bool (((Sl.len x16 : Int) : Int) == 0)) rfl rfl rfl) (Zt u15 ?_)))
 exact Yj I3 (((Sl.len x16 : Int) : Int) == 0) h
 refine Zk u15 (Zk u15 (Zk u15 (Zk u15 (Zn u15 ?_))))
 exact Yj I3 false h
 intro b12 H18 h
 replace h := hR14 b12 H18 h
 refine Za (Za (GL.nil ?_))
 obtain ⟨J19, h, hR22⟩ := h
 refine GC.join (α := Bool × Bool) J19 (fun x20 => [(2, .bool x20.1), (3, .bool x20.2), (1, pv (some (b1, 0)))]) ?_ ?_
 refine Zo (Zf (Yl h fun x23 h => ?_))
 refine GL.nil (GC.block (Zo (Zi (.bool ((x23 : Int) == 1)) (Za (GL.nil (Yd h (fun u25 h => ?_) fun u25 h => ?_))))))
 refine GC.region (Zf (Yl h fun x26 h => ?_))
 refine Zi (.bool ((x26 : Int) == 0)) (Zm ?_)
 obtain ⟨J29, h, hR30⟩ := h
 refine GL.cut (α := Bool) 4 J29 (fun b28 => [(38, .bool b28), (1, pv (some (b1, 0))), (3, .bool true)]) ?_ ?_
 rcases h.em with ⟨u31, h⟩ | ⟨u31, h⟩
 refine Zk u31 (Zk u31 (Zk u31 (Zt u31 ?_)))
 exact Yj I3 true h
 refine Zu u31 Yf ?_
 obtain ⟨x32, v33, h⟩ := h
 refine Zu u31 (Yo v33) (Zu u31 (OV.ibin (v := .bool ((x32 : Int) == 1)) rfl rfl rfl) (Zn u31 ?_))
 exact Yj I3 ((x32 : Int) == 1) h
 intro b28 H34 h
 replace h := hR30 b28 H34 h
 refine Zm ?_
 obtain ⟨J36, h, hR37⟩ := h
 refine GL.cut (α := Bool) 4 J36 (fun b35 => [(43, .bool b35), (1, pv (some (b1, 0))), (3, .bool true)]) ?_ ?_
 rcases h.em with ⟨u38, h⟩ | ⟨u38, h⟩
 refine Zu u38 Yf ?_
 obtain ⟨x39, v40, h⟩ := h
 refine Zu u38 (Yo v40) (Zu u38 (OV.sbin (a := x39) (b := ([] : Str)) (v := .bool (x39 == ([] : Str))) rfl rfl rfl) (Zt u38 ?_))
 exact Yj I3 (x39 == ([] : Str)) h
 refine Zk u38 (Zk u38 (Zk u38 (Zn u38 ?_)))
 exact Yj I3 false h
 intro b35 H41 h
 replace h := hR37 b35 H41 h
 refine Zm ?_
 obtain ⟨J43, h, hR44⟩ := h
 refine GL.cut (α := Bool) 5 J43 (fun b42 => [(49, .bool b42), (1, pv (some (b1, 0))), (3, .bool true)]) ?_ ?_
 rcases h.em with ⟨u45, h⟩ | ⟨u45, h⟩
 refine Zu u45 Yf ?_
 obtain ⟨x46, v47, h⟩ := h
 refine Zu u45 (Yo v47) (Zu u45 (OV.lenSl rfl rfl) (Zu u45 (OV.ibin (v := .bool (((Sl.len x46 : Int) : Int) == 0)) rfl rfl rfl) (Zt u45 ?_)))
 exact Yj I3 (((Sl.len x46 : Int) : Int) == 0) h
 refine Zk u45 (Zk u45 (Zk u45 (Zk u45 (Zn u45 ?_))))
 exact Yj I3 false h
 intro b42 H48 h
 replace h := hR44 b42 H48 h
 refine Za ?_
 exact Yj I3 (b42, true) h
 refine Zo (Zi (.bool ((x23 : Int) == 2)) (Za (GL.nil (Yd h (fun u49 h => ?_) fun u49 h => ?_))))
 refine GC.region (Zf (Yl h fun x50 h => ?_))
 refine Zv (OV.sbin (a := x50) (b := ([] : Str)) (v := .bool (x50 == ([] : Str))) rfl rfl rfl) (Zm ?_)
 obtain ⟨J53, h, hR54⟩ := h
 refine GL.cut (α := Bool) 5 J53 (fun b52 => [(60, .bool b52), (1, pv (some (b1, 0))), (3, .bool true)]) ?_ ?_
 rcases h.em with ⟨u55, h⟩ | ⟨u55, h⟩
 refine Zu u55 Yf ?_
 obtain ⟨x56, v57, h⟩ := h
 refine Zu u55 (Yo v57) (Zu u55 (OV.lenSl rfl rfl) (Zu u55 (OV.ibin (v := .bool (((Sl.len x56 : Int) : Int) == 0)) rfl rfl rfl) (Zt u55 ?_)))
 exact Yj I3 (((Sl.len x56 : Int) : Int) == 0) h
 refine Zk u55 (Zk u55 (Zk u55 (Zk u55 (Zn u55 ?_))))
 exact Yj I3 false h
 intro b52 H58 h
 replace h := hR54 b52 H58 h
 refine Za ?_
 exact Yj I3 (b52, true) h
 refine Zo (Zi (.bool ((x23 : Int) == 3)) (Za (GL.nil (Yd h (fun u59 h => ?_) fun u59 h => ?_))))
 refine Zo (Zf (Yl h fun x60 h => ?_))
 refine Zc h Qfd ?_
 rintro _ H64 ⟨r62, r63, rfl, h⟩
 refine Zm (Yv (.int .i64 r62) rfl rfl (Yv (.bool r63) rfl rfl (Za (Za (GL.nil (GC.region (Zm (Zm ?_))))))))
 obtain ⟨J66, h, hR67⟩ := h
 refine GL.cut (α := Bool) 4 J66 (fun b65 => [(74, .bool b65), (1, pv (some (b1, 0))), (4, .int .i64 r62)]) ?_ ?_
 rcases h.em with ⟨u68, h⟩ | ⟨u68, h⟩
 refine Zu u68 Yf ?_
 obtain ⟨x69, v70, h⟩ := h
 refine Zu u68 (Yo v70) (Zu u68 (OV.ibin (v := .bool ((x69 : Int) == 0)) rfl rfl rfl) (Zt u68 ?_))
 exact Yj I3 ((x69 : Int) == 0) h
 refine Zk u68 (Zk u68 (Zk u68 (Zn u68 ?_)))
 exact Yj I3 false h
 intro b65 H71 h
 replace h := hR67 b65 H71 h
 refine Zm ?_
 obtain ⟨J73, h, hR74⟩ := h
 refine GL.cut (α := Bool) 5 J73 (fun b72 => [(80, .bool b72), (1, pv (some (b1, 0))), (4, .int .i64 r62)]) ?_ ?_
 rcases h.em with ⟨u75, h⟩ | ⟨u75, h⟩
 refine Zu u75 Yf ?_
 obtain ⟨x76, v77, h⟩ := h
 refine Zu u75 (Yo v77) (Zu u75 (OV.lenSl rfl rfl) (Zu u75 (OV.ibin (v := .bool (((Sl.len x76 : Int) : Int) == 0)) rfl rfl rfl) (Zt u75 ?_)))
 exact Yj I3 (((Sl.len x76 : Int) : Int) == 0) h
 refine Zk u75 (Zk u75 (Zk u75 (Zk u75 (Zn u75 ?_))))
 exact Yj I3 false h
 intro b72 H78 h
 replace h := hR74 b72 H78 h
 refine Zm (Zi (.bool (decide ((r62 : Int) ≤ 200))) (Za (Za ?_)))
 exact Yj I3 (b72, (decide ((r62 : Int) ≤ 200))) h
 refine Zo (Zi (.bool ((x23 : Int) == 4)) (Za (GL.nil (Yd h (fun u79 h => ?_) fun u79 h => ?_))))
 obtain ⟨J80, h, hR83⟩ := h
 refine GC.meet (α := Bool × Bool) J80 (fun x81 => [(2, .bool x81.1), (3, .bool x81.2), (1, pv (some (b1, 0)))]) ?_ ?_
 obtain ⟨Hs84, hle85, h⟩ := h
 refine GC.any (Hs := Hs84) (by kernel_rfl) hle85 (Zp 0 rfl Yf ?_)
 obtain ⟨x86, v87, h⟩ := h
 refine Zp 1 rfl (Yo v87) (Zp 2 rfl (OV.ibin (v := .bool ((x86 : Int) == 0)) rfl rfl rfl) (Zp 3 rfl Ym (Zp 9 rfl Yf ?_)))
 obtain ⟨x88, v89, h⟩ := h
 refine Zp 10 rfl (Yo v89) (Zp 11 rfl (OV.lenStr rfl rfl) (Zp 12 rfl (OV.ibin (v := .bool (decide (((List.length x88 : Int) : Int) ≤ 4096))) rfl rfl rfl) ?_))
 rcases h.em with ⟨u90, h⟩ | ⟨u90, h⟩
 refine Zg 4 rfl (Yt u90) Yf ?_
 obtain ⟨x91, v92, h⟩ := h
 refine Zg 5 rfl (Yt u90) (Yo v92) (Zg 6 rfl (Yt u90) (OV.lenSl rfl rfl) (Zg 7 rfl (Yt u90) (OV.ibin (v := .bool (((Sl.len x91 : Int) : Int) == 0)) rfl rfl rfl) (Zp 8 rfl (OV.pickT rfl u90 rfl) (Zp 13 rfl Ya (Zp 14 rfl Ya (GA.done (by kernel_rfl) ?_))))))
 exact Yj I3 ((((Sl.len x91 : Int) : Int) == 0), (decide (((List.length x88 : Int) : Int) ≤ 4096))) h
 refine Zj 4 rfl (Yw u90) (Zj 5 rfl (Yw u90) (Zj 6 rfl (Yw u90) (Zj 7 rfl (Yw u90) (Zp 8 rfl (OV.pickF rfl u90 rfl) (Zp 13 rfl Ya (Zp 14 rfl Ya (GA.done (by kernel_rfl) ?_)))))))
 exact Yj I3 (false, (decide (((List.length x88 : Int) : Int) ≤ 4096))) h
 intro x81 H82 h
 replace h := hR83 x81 H82 h
 exact Yj I3 (x81.1, x81.2) h
 refine Zo (Zi (.bool ((x23 : Int) == 5)) (Za (GL.nil (Yd h (fun u93 h => ?_) fun u93 h => ?_))))
 obtain ⟨J94, h, hR97⟩ := h
 refine GC.meet (α := Bool × Bool) J94 (fun x95 => [(2, .bool x95.1), (3, .bool x95.2), (1, pv (some (b1, 0)))]) ?_ ?_
 obtain ⟨Hs98, hle99, h⟩ := h
 refine GC.any (Hs := Hs98) (by kernel_rfl) hle99 (Zp 0 rfl Yf ?_)
 obtain ⟨x100, v101, h⟩ := h
 refine Zp 1 rfl (Yo v101) (Zp 2 rfl (OV.ibin (v := .bool ((x100 : Int) == 0)) rfl rfl rfl) (Zp 3 rfl Ym (Zp 14 rfl Yf ?_)))
 obtain ⟨x102, v103, h⟩ := h
 refine Zp 15 rfl (Yo v103) (Zp 16 rfl (OV.lenSl rfl rfl) (Zp 17 rfl (OV.ibin (v := .bool (decide (((Sl.len x102 : Int) : Int) ≤ 16))) rfl rfl rfl) ?_))
 rcases h.em with ⟨u104, h⟩ | ⟨u104, h⟩
 refine Zg 4 rfl (Yt u104) Yf ?_
 obtain ⟨x105, v106, h⟩ := h
 refine Zg 5 rfl (Yt u104) (Yo v106) (Zg 6 rfl (Yt u104) (OV.sbin (a := x105) (b := ([] : Str)) (v := .bool (x105 == ([] : Str))) rfl rfl rfl) (Zp 7 rfl (OV.pickT rfl u104 rfl) (Zp 8 rfl Ym ?_)))
 rcases h.em with ⟨u107, h⟩ | ⟨u107, h⟩
 refine Zg 9 rfl (Yt u107) Yf ?_
 obtain ⟨x108, v109, h⟩ := h
 refine Zg 10 rfl (Yt u107) (Yo v109) (Zg 11 rfl (Yt u107) (OV.lenSl rfl rfl) (Zg 12 rfl (Yt u107) (OV.ibin (v := .bool (((Sl.len x108 : Int) : Int) != 1)) rfl rfl rfl) (Zp 13 rfl (OV.pickT rfl u107 rfl) (Zp 18 rfl Ya (Zp 19 rfl Ya (GA.done (by kernel_rfl) ?_))))))
 exact Yj I3 ((((Sl.len x108 : Int) : Int) != 1), (decide (((Sl.len x102 : Int) : Int) ≤ 16))) h
 refine Zj 9 rfl (Yw u107) (Zj 10 rfl (Yw u107) (Zj 11 rfl (Yw u107) (Zj 12 rfl (Yw u107) (Zp 13 rfl (OV.pickF rfl u107 rfl) (Zp 18 rfl Ya (Zp 19 rfl Ya (GA.done (by kernel_rfl) ?_)))))))
 exact Yj I3 (false, (decide (((Sl.len x102 : Int) : Int) ≤ 16))) h
 refine Zj 4 rfl (Yw u104) (Zj 5 rfl (Yw u104) (Zj 6 rfl (Yw u104) (Zp 7 rfl (OV.pickF rfl u104 rfl) (Zp 8 rfl Ym (Zj 9 rfl (Yw rfl) (Zj 10 rfl (Yw rfl) (Zj 11 rfl (Yw rfl) (Zj 12 rfl (Yw rfl) (Zp 13 rfl (OV.pickF rfl rfl rfl) (Zp 18 rfl Ya (Zp 19 rfl Ya (GA.done (by kernel_rfl) ?_))))))))))))
 exact Yj I3 (false, (decide (((Sl.len x102 : Int) : Int) ≤ 16))) h
 intro x95 H96 h
 replace h := hR97 x95 H96 h
 exact Yj I3 (x95.1, x95.2) h
 refine Zo (Zi (.bool ((x23 : Int) == 6)) (Za (GL.nil (Yd h (fun u110 h => ?_) fun u110 h => ?_))))
 refine Zo (Zf (Yl h fun x111 h => ?_))
 refine Zc h QfB ?_
 rintro _ H116 ⟨r113, r114, r115, rfl, h⟩
 refine Zm (Yv (sv r113) rfl rfl (Yv (sv r114) rfl rfl (Yv (.bool r115) rfl rfl (Za (Za (Za (GL.nil ?_)))))))
 obtain ⟨J117, h, hR120⟩ := h
 refine GC.meet (α := Bool × Bool) J117 (fun x118 => [(2, .bool x118.1), (3, .bool x118.2), (1, pv (some (b1, 0)))]) ?_ ?_
 obtain ⟨Hs121, hle122, h⟩ := h
 refine GC.any (Hs := Hs121) (by kernel_rfl) hle122 (Zp 0 rfl Yf ?_)
 obtain ⟨x123, v124, h⟩ := h
 refine Zp 1 rfl (Yo v124) (Zp 2 rfl (OV.ibin (v := .bool ((x123 : Int) == 0)) rfl rfl rfl) (Zp 3 rfl Ym (Zp 28 rfl Yf ?_)))
 obtain ⟨x125, v126, h⟩ := h
 refine Zp 29 rfl (Yo v126) (Zp 30 rfl (OV.lenSl rfl rfl) (Zp 31 rfl (OV.ibin (v := .bool (decide (((Sl.len x125 : Int) : Int) ≤ 8))) rfl rfl rfl) ?_))
 rcases h.em with ⟨u127, h⟩ | ⟨u127, h⟩
 refine Zg 4 rfl (Yt u127) Ym (GA.eff 5 rfl (by kernel_rfl) (GL.call h (Yt u127) rfl Qeh (vs := [sv r113]) rfl ?_))
 rintro _ H130 ⟨r129, rfl, h⟩
 obtain ⟨hle128, h⟩ := h
 refine GA.back hle128 (Zp 6 rfl (OV.pickT rfl u127 rfl) (Zp 7 rfl Ym ?_))
 rcases h.em with ⟨u131, h⟩ | ⟨u131, h⟩
 refine Zg 8 rfl (Yt u131) Ym (Zg 9 rfl (Yt u131) Ym ?_)
 rcases h.em with ⟨u132, h⟩ | ⟨u132, h⟩
 refine Zg 10 rfl (Yt u132) Ym (GA.eff 11 rfl (by kernel_rfl) (GL.call h (Yt u132) rfl Qeh (vs := [sv r114]) rfl ?_))
 rintro _ H135 ⟨r134, rfl, h⟩
 obtain ⟨hle133, h⟩ := h
 refine GA.back hle133 (Zg 12 rfl (Yt u131) (OV.pickT rfl u132 rfl) (Zg 13 rfl (Yt u131) Ym ?_))
 rcases h.em with ⟨u136, h⟩ | ⟨u136, h⟩
 refine Zj 14 rfl (Yw u136) (Zj 15 rfl (Yw u136) (Zj 16 rfl (Yw u136) (Zj 17 rfl ⟨_, rfl, .inr rfl⟩ (Zj 18 rfl ⟨_, rfl, .inr rfl⟩ (Zj 19 rfl ⟨_, rfl, .inr rfl⟩ (Zj 20 rfl (Yw u136) (Zj 21 rfl (Yw u136) (Zj 22 rfl ⟨_, rfl, .inr rfl⟩ (Zj 23 rfl ⟨_, rfl, .inr rfl⟩ (Zj 24 rfl ⟨_, rfl, .inr rfl⟩ (Zj 25 rfl (Yw u136) (Zg 26 rfl (Yt u131) (OV.pickT rfl u136 rfl) (Zp 27 rfl (OV.pickT rfl u131 rfl) (Zp 32 rfl Ya (Zp 33 rfl Ya (GA.done (by kernel_rfl) ?_))))))))))))))))
 exact Yj I3 (true, (decide (((Sl.len x125 : Int) : Int) ≤ 8))) h
 refine Zg 14 rfl (Yt u136) Ym (Zg 15 rfl (Yt u136) (OV.not rfl) (Zg 16 rfl (Yt u136) Ym ?_))
 rcases h.em with ⟨u137, h⟩ | ⟨u137, h⟩
 refine Zg 17 rfl (Yt u137) Yf ?_
 obtain ⟨x138, v139, h⟩ := h
 refine Zg 18 rfl (Yt u137) (Yo v139) (Zg 19 rfl (Yt u137) (OV.sbin (a := x138) (b := ([116, 114, 117, 101] : Str)) (v := .bool (!(x138 == ([116, 114, 117, 101] : Str)))) rfl rfl rfl) (Zg 20 rfl (Yt u136) (OV.pickT rfl u137 rfl) (Zg 21 rfl (Yt u136) Ym ?_)))
 rcases h.em with ⟨u140, h⟩ | ⟨u140, h⟩
 refine Zg 22 rfl (Yt u140) Yf ?_
 obtain ⟨x141, v142, h⟩ := h
 refine Zg 23 rfl (Yt u140) (Yo v142) (Zg 24 rfl (Yt u140) (OV.sbin (a := x141) (b := ([102, 97, 108, 115, 101] : Str)) (v := .bool (!(x141 == ([102, 97, 108, 115, 101] : Str)))) rfl rfl rfl) (Zg 25 rfl (Yt u136) (OV.pickT rfl u140 rfl) (Zg 26 rfl (Yt u131) (OV.pickF rfl u136 rfl) (Zp 27 rfl (OV.pickT rfl u131 rfl) (Zp 32 rfl Ya (Zp 33 rfl Ya (GA.done (by kernel_rfl) ?_)))))))
 exact Yj I3 ((!(x141 == ([102, 97, 108, 115, 101] : Str))), (decide (((Sl.len x125 : Int) : Int) ≤ 8))) h
 refine Zj 22 rfl (Yw u140) (Zj 23 rfl (Yw u140) (Zj 24 rfl (Yw u140) (Zg 25 rfl (Yt u136) (OV.pickF rfl u140 rfl) (Zg 26 rfl (Yt u131) (OV.pickF rfl u136 rfl) (Zp 27 rfl (OV.pickT rfl u131 rfl) (Zp 32 rfl Ya (Zp 33 rfl Ya (GA.done (by kernel_rfl) ?_))))))))
 exact Yj I3 (false, (decide (((Sl.len x125 : Int) : Int) ≤ 8))) h
 refine Zj 17 rfl (Yw u137) (Zj 18 rfl (Yw u137) (Zj 19 rfl (Yw u137) (Zg 20 rfl (Yt u136) (OV.pickF rfl u137 rfl) (Zg 21 rfl (Yt u136) Ym (Zj 22 rfl (Yw rfl) (Zj 23 rfl (Yw rfl) (Zj 24 rfl (Yw rfl) (Zg 25 rfl (Yt u136) (OV.pickF rfl rfl rfl) (Zg 26 rfl (Yt u131) (OV.pickF rfl u136 rfl) (Zp 27 rfl (OV.pickT rfl u131 rfl) (Zp 32 rfl Ya (Zp 33 rfl Ya (GA.done (by kernel_rfl) ?_)))))))))))))
 exact Yj I3 (false, (decide (((Sl.len x125 : Int) : Int) ≤ 8))) h
 refine Zj 10 rfl (Yw u132) (Zj 11 rfl (Yw u132) (Zg 12 rfl (Yt u131) (OV.pickF rfl u132 rfl) (Zg 13 rfl (Yt u131) Ym (Zg 14 rfl (Yt rfl) Ym (Zg 15 rfl (Yt rfl) (OV.not rfl) (Zg 16 rfl (Yt rfl) Ym ?_))))))
 rcases h.em with ⟨u143, h⟩ | ⟨u143, h⟩
 refine Zg 17 rfl (Yt u143) Yf ?_
 obtain ⟨x144, v145, h⟩ := h
 refine Zg 18 rfl (Yt u143) (Yo v145) (Zg 19 rfl (Yt u143) (OV.sbin (a := x144) (b := ([116, 114, 117, 101] : Str)) (v := .bool (!(x144 == ([116, 114, 117, 101] : Str)))) rfl rfl rfl) (Zg 20 rfl (Yt rfl) (OV.pickT rfl u143 rfl) (Zg 21 rfl (Yt rfl) Ym ?_)))
 rcases h.em with ⟨u146, h⟩ | ⟨u146, h⟩
 refine Zg 22 rfl (Yt u146) Yf ?_
 obtain ⟨x147, v148, h⟩ := h
 refine Zg 23 rfl (Yt u146) (Yo v148) (Zg 24 rfl (Yt u146) (OV.sbin (a := x147) (b := ([102, 97, 108, 115, 101] : Str)) (v := .bool (!(x147 == ([102, 97, 108, 115, 101] : Str)))) rfl rfl rfl) (Zg 25 rfl (Yt rfl) (OV.pickT rfl u146 rfl) (Zg 26 rfl (Yt u131) (OV.pickF rfl rfl rfl) (Zp 27 rfl (OV.pickT rfl u131 rfl) (Zp 32 rfl Ya (Zp 33 rfl Ya (GA.done (by kernel_rfl) ?_)))))))
 exact Yj I3 ((!(x147 == ([102, 97, 108, 115, 101] : Str))), (decide (((Sl.len x125 : Int) : Int) ≤ 8))) h
 refine Zj 22 rfl (Yw u146) (Zj 23 rfl (Yw u146) (Zj 24 rfl (Yw u146) (Zg 25 rfl (Yt rfl) (OV.pickF rfl u146 rfl) (Zg 26 rfl (Yt u131) (OV.pickF rfl rfl rfl) (Zp 27 rfl (OV.pickT rfl u131 rfl) (Zp 32 rfl Ya (Zp 33 rfl Ya (GA.done (by kernel_rfl) ?_))))))))
 exact Yj I3 (false, (decide (((Sl.len x125 : Int) : Int) ≤ 8))) h
 refine Zj 17 rfl (Yw u143) (Zj 18 rfl (Yw u143) (Zj 19 rfl (Yw u143) (Zg 20 rfl (Yt rfl) (OV.pickF rfl u143 rfl) (Zg 21 rfl (Yt rfl) Ym (Zj 22 rfl (Yw rfl) (Zj 23 rfl (Yw rfl) (Zj 24 rfl (Yw rfl) (Zg 25 rfl (Yt rfl) (OV.pickF rfl rfl rfl) (Zg 26 rfl (Yt u131) (OV.pickF rfl rfl rfl) (Zp 27 rfl (OV.pickT rfl u131 rfl) (Zp 32 rfl Ya (Zp 33 rfl Ya (GA.done (by kernel_rfl) ?_)))))))))))))
 exact Yj I3 (false, (decide (((Sl.len x125 : Int) : Int) ≤ 8))) h
 refine Zj 8 rfl (Yw u131) (Zj 9 rfl (Yw u131) (Zj 10 rfl ⟨_, rfl, .inr rfl⟩ (Zj 11 rfl ⟨_, rfl, .inr rfl⟩ (Zj 12 rfl (Yw u131) (Zj 13 rfl (Yw u131) (Zj 14 rfl ⟨_, rfl, .inr rfl⟩ (Zj 15 rfl ⟨_, rfl, .inr rfl⟩ (Zj 16 rfl ⟨_, rfl, .inr rfl⟩ (Zj 17 rfl ⟨_, rfl, .inr rfl⟩ (Zj 18 rfl ⟨_, rfl, .inr rfl⟩ (Zj 19 rfl ⟨_, rfl, .inr rfl⟩ (Zj 20 rfl ⟨_, rfl, .inr rfl⟩ (Zj 21 rfl ⟨_, rfl, .inr rfl⟩ (Zj 22 rfl ⟨_, rfl, .inr rfl⟩ (Zj 23 rfl ⟨_, rfl, .inr rfl⟩ (Zj 24 rfl ⟨_, rfl, .inr rfl⟩ (Zj 25 rfl ⟨_, rfl, .inr rfl⟩ (Zj 26 rfl (Yw u131) (Zp 27 rfl (OV.pickF rfl u131 rfl) (Zp 32 rfl Ya (Zp 33 rfl Ya (GA.done (by kernel_rfl) ?_))))))))))))))))))))))
 exact Yj I3 (false, (decide (((Sl.len x125 : Int) : Int) ≤ 8))) h
 refine Zj 4 rfl (Yw u127) (Zj 5 rfl (Yw u127) (Zp 6 rfl (OV.pickF rfl u127 rfl) (Zp 7 rfl Ym (Zj 8 rfl (Yw rfl) (Zj 9 rfl (Yw rfl) (Zj 10 rfl ⟨_, rfl, .inr rfl⟩ (Zj 11 rfl ⟨_, rfl, .inr rfl⟩ (Zj 12 rfl (Yw rfl) (Zj 13 rfl (Yw rfl) (Zj 14 rfl ⟨_, rfl, .inr rfl⟩ (Zj 15 rfl ⟨_, rfl, .inr rfl⟩ (Zj 16 rfl ⟨_, rfl, .inr rfl⟩ (Zj 17 rfl ⟨_, rfl, .inr rfl⟩ (Zj 18 rfl ⟨_, rfl, .inr rfl⟩ (Zj 19 rfl ⟨_, rfl, .inr rfl⟩ (Zj 20 rfl ⟨_, rfl, .inr rfl⟩ (Zj 21 rfl ⟨_, rfl, .inr rfl⟩ (Zj 22 rfl ⟨_, rfl, .inr rfl⟩ (Zj 23 rfl ⟨_, rfl, .inr rfl⟩ (Zj 24 rfl ⟨_, rfl, .inr rfl⟩ (Zj 25 rfl ⟨_, rfl, .inr rfl⟩ (Zj 26 rfl (Yw rfl) (Zp 27 rfl (OV.pickF rfl rfl rfl) (Zp 32 rfl Ya (Zp 33 rfl Ya (GA.done (by kernel_rfl) ?_))))))))))))))))))))))))))
 exact Yj I3 (false, (decide (((Sl.len x125 : Int) : Int) ≤ 8))) h
 intro x118 H119 h
 replace h := hR120 x118 H119 h
 exact Yj I3 (x118.1, x118.2) h
 refine GC.region (Za ?_)
 exact Yj I3 (false, true) h
 intro x20 H21 h
 replace h := hR22 x20 H21 h
 refine GC.seq (Zo (Zf (Yl h fun x149 h => ?_)))
 refine Zq (Zm (GL.nil (GC.block (Yp h (fun x151 => [(2, .bool x151.1), (3, .bool x151.2.1), (162, .int .i64 x151.2.2), (160, slv x149), (161, .int .i64 (Sl.len x149 : Int))]) ?_))))
 intro x151 H153 J152 h
 refine Zo (Zi (.bool (decide ((x151.2.2 : Int) < (Sl.len x149 : Int)))) (GL.nil (GC.seq (Yd h (fun u154 h => ?_) fun u154 h => ?_))))
 refine GC.skip (GC.seq (GC.block (Zo (Yx h fun p155 h => ?_))))
 obtain ⟨x160, v161, h⟩ := h
 refine Zv (OV.loadT rfl rfl rfl v161) (GL.alloc (cs := Qa.c Qa.zero) h trivial rfl rfl rfl ?_)
 intro b162 H163 h
 refine GL.storeT (p := (b162, 0)) (vs := Qa.c x160) h trivial rfl rfl rfl rfl ?_
 intro H164 h
 refine GL.nil (Zo ?_)
 obtain ⟨x165, v166, h⟩ := h
 refine Zv (OV.loadT rfl rfl rfl v166) (Zc h Qb9 ?_)
 rintro _ H169 ⟨r167, r168, rfl, h⟩
 refine Zm (Yv (.bool r167) rfl rfl (Yv (.bool r168) rfl rfl (Za (Za (GL.nil (GC.region (Zm (Zm (GL.cut0 2 [(174, .bool (x151.1 && r167)), (3, .bool x151.2.1), (12, .bool r168), (160, slv x149), (161, .int .i64 (Sl.len x149 : Int)), (162, .int .i64 x151.2.2)] ?_ ?_)))))))))
 rcases Bool.eq_false_or_eq_true x151.1 with u170 | u170
 refine Zu u170 Ym (Zt u170 ?_)
 exact GL.jump0 (fun _ _ h => h) () rfl ⟨(by rw [u170]; rfl), rfl, rfl, rfl, rfl, rfl, trivial⟩
 refine Zk u170 (Zn u170 ?_)
 exact GL.jump0 (fun _ _ h => h) () rfl ⟨(by rw [u170]; rfl), rfl, rfl, rfl, rfl, rfl, trivial⟩
 refine Zm (Zm (GL.cut0 2 [(178, .bool (x151.2.1 && r168)), (160, slv x149), (161, .int .i64 (Sl.len x149 : Int)), (162, .int .i64 x151.2.2), (174, .bool (x151.1 && r167))] ?_ ?_))
 rcases Bool.eq_false_or_eq_true x151.2.1 with u171 | u171
 refine Zu u171 Ym (Zt u171 ?_)
 exact GL.jump0 (fun _ _ h => h) () rfl ⟨(by rw [u171]; rfl), rfl, rfl, rfl, rfl, trivial⟩
 refine Zk u171 (Zn u171 ?_)
 exact GL.jump0 (fun _ _ h => h) () rfl ⟨(by rw [u171]; rfl), rfl, rfl, rfl, rfl, trivial⟩
 refine Za (Za (GL.nil_to (fun _ _ h => h) (GC.region (Zi (.int .i64 (w .i64 (x151.2.2 + 1))) (Zm ?_)))))
 exact Yj I3 ((x151.1 && r167), (x151.2.1 && r168), (w .i64 (x151.2.2 + 1))) h
 refine GC.exit_to (fun _ _ h => h) (Zo (Zm (Zm (Za (Za (GL.nil ?_))))))
 exact Y2 I3 ⟨x151.1, x151.2.1, rfl, h⟩
def Qdq (C : Ctx) (p_l : Sl) (v0 : Nat × Nat) (v1 : Nat × Nat) (K : Heap → Prop) (H : Heap) : Prop :=
 Qf C (some v0) 40 (fun r1 H2 =>
 lp (α := Int) 0 H2 (fun x3 J4 H5 =>
 ift (decide ((x3 : Int) < (Sl.len p_l : Int)))
 (ixa p_l x3 fun p7 =>
 ldT H5 Qa.c (p7.1, p7.2 + (x3 : Int).toNat * 4) fun x12 =>
 nw (Qa.c Qa.zero) (fun b14 H15 =>
 stT (b14, 0) (Qa.c x12) (fun H16 =>
 jn (α := Unit) (fun x18 H19 =>
 ldV H19 v1 fun x25 =>
 ldT H19 Qa.c (b14, 0) fun x27 =>
 callU Tryz.prog C x25 [.agg (Qa.c x27).toArray] H19 (fun v H29 => v = .tuple #[] ∧
 J4 (w .i64 (x3 + 1)) H29))
 (fun J17 => ift (decide ((x3 : Int) > 0))
 (Qh C (some v0) [44, 32] (fun r22 r23 H24 =>
 J17 () H24) H16)
 (J17 () H16))) H15) H5)
 (Qf C (some v0) 41 (fun r30 H31 =>
 K H31) H5))) H
theorem QeY (C p_l v0 v1 K H) (h : Qdq C p_l v0 v1 K H) : Qck C p_l v0 v1 K H := by
 refine Ye Tryz.func95 rfl Tryz.ntmps95 [(0, slv p_l), (1, pv (some v0)), (2, pv (some v1))] (Zo (Zc h Qi ?_))
 rintro _ H2 ⟨r1, rfl, h⟩
 refine GL.nil (GC.seq (Zo (Zm (Zq (Zm (GL.nil (GC.block (Yp h (fun x3 => [(9, .int .i64 x3), (1, pv (some v0)), (2, pv (some v1)), (7, slv p_l), (8, .int .i64 (Sl.len p_l : Int))]) ?_))))))))
 intro x3 H5 J4 h
 refine Zo (Zi (.bool (decide ((x3 : Int) < (Sl.len p_l : Int)))) (GL.nil (GC.seq (Yd h (fun u6 h => ?_) fun u6 h => ?_))))
 refine GC.skip (GC.seq (GC.block (Zo (Zm (Yx h fun p7 h => ?_)))))
 obtain ⟨x12, hr13, h⟩ := h
 refine Zv (OV.loadT rfl rfl rfl hr13) (GL.alloc (cs := Qa.c Qa.zero) h trivial rfl rfl rfl ?_)
 intro b14 H15 h
 refine Za (GL.storeT (p := (b14, 0)) (vs := Qa.c x12) h trivial rfl rfl rfl rfl ?_)
 intro H16 h
 refine GL.nil ?_
 obtain ⟨J17, h, hR20⟩ := h
 refine GC.join (α := Unit) J17 (fun _ => [(1, pv (some v0)), (2, pv (some v1)), (5, pv (some (b14, 0))), (7, slv p_l), (8, .int .i64 (Sl.len p_l : Int)), (9, .int .i64 x3)]) ?_ ?_
 refine Zo (Zm (Zi (.bool (decide ((x3 : Int) > 0))) (GL.nil (Yd h (fun u21 h => ?_) fun u21 h => ?_))))
 refine GC.region (Zc h Qj ?_)
 rintro _ H24 ⟨r22, r23, rfl, h⟩
 exact Yj I3 () h
 exact Yk I3 () h
 intro x18 H19 h
 replace h := hR20 x18 H19 h
 refine GC.region (Yl h fun x25 h => ?_)
 obtain ⟨x27, hr28, h⟩ := h
 refine Zv (OV.loadT rfl rfl rfl hr28) (GL.callU (xv := x25) (vs := [.agg (Qa.c x27).toArray]) h trivial rfl rfl rfl ?_)
 rintro _ H29 ⟨rfl, h⟩
 refine GL.nil_to (fun _ _ h => h) (GC.region (Zi (.int .i64 (w .i64 (x3 + 1))) (Zm ?_)))
 exact Yj I3 (w .i64 (x3 + 1)) h
 refine GC.exit_to (fun _ _ h => h) (GC.region (Zc h Qi ?_))
 rintro _ H31 ⟨r30, rfl, h⟩
 exact GL.ends (fun _ _ hf hs => QA rfl hf hs ⟨rfl, h⟩)
def Qax (C : Ctx) (p_b : Option (Nat × Nat)) (p_c : Int) (K : Value → Heap → Prop) (H : Heap) : Prop :=
 QC C p_b (fun H1 =>
 nck p_b fun p2 =>
 ldL H1 (p2.1, p2.2 + 1) fun x4 =>
 apdG 5 ([.int .u8 0]) 1 x4 ([.int .u8 p_c]) 1 (fun r6 H7 =>
 nck p_b fun p8 =>
 sttG (p8.1, p8.2 + 1) (slv r6) (fun H10 =>
 K .nilIface H10) H7) H1) H
theorem QbK (C p_b p_c K H) (h : Qax C p_b p_c K H) : Qf C p_b p_c K H := by
 refine Ye Tryz.func96 rfl Tryz.ntmps96 [(0, pv p_b), (1, .int .u8 p_c)] (Zo (Za (GL.nil (Zo (Zm (Zc h Qav ?_))))))
 rintro _ H1 ⟨rfl, h⟩
 refine GL.nil (Zo (Zm (Zm ?_)))
 obtain ⟨p2, hp3, h⟩ := h
 refine Zv (OV.nilCheck (q := p_b) rfl hp3) (Zf (Yl h fun x4 h => ?_))
 refine Zm (GL.appendGLit (e := 5) (s := x4) (ys := [.int .u8 p_c]) (zc := [.int .u8 0]) (bytes := 1) h trivial rfl (fun _ => trivial) rfl (fun _ => rfl) (fun _ => rfl) (vs := [(0, .int .u8 p_c)]) rfl ⟨5, fun _ => by kernel_rfl⟩ ⟨⟨_, _, rfl, rfl, rfl, rfl, rfl, rfl⟩⟩ rfl rfl ?_)
 intro _ r6 H7 h
 obtain ⟨p8, hp9, h⟩ := h
 refine Zv (OV.nilCheck (q := p_b) rfl hp9) (Zf (GL.storeG (p := (p8.1, p8.2 + 1)) (v := slv r6) h trivial rfl rfl rfl rfl ?_))
 intro H10 h
 refine GL.nil (Zo (Za (GL.nil ?_)))
 exact Y1 I3 ⟨.nilIface, rfl, h⟩
def Qac (C : Ctx) (p_b : Option (Nat × Nat)) (p_s : Str) (K : Int → Value → Heap → Prop) (H : Heap) : Prop :=
 QC C p_b (fun H1 =>
 nck p_b fun p2 =>
 ldL H1 (p2.1, p2.2 + 1) fun x4 =>
 apdG 5 [.int .u8 0] 1 x4 (bytesV p_s) (List.length p_s) (fun r6 H7 =>
 nck p_b fun p8 =>
 sttG (p8.1, p8.2 + 1) (slv r6) (fun H10 =>
 K (List.length p_s : Int) .nilIface H10) H7) H1) H
theorem Qbq (C p_b p_s K H) (h : Qac C p_b p_s K H) : Qh C p_b p_s K H := by
 refine Ye Tryz.func97 rfl Tryz.ntmps97 [(0, pv p_b), (1, sv p_s)] (Zo (Za (Za (GL.nil (Zo (Zm (Zc h Qav ?_)))))))
 rintro _ H1 ⟨rfl, h⟩
 refine GL.nil (Zo (Zm (Zm ?_)))
 obtain ⟨p2, hp3, h⟩ := h
 refine Zv (OV.nilCheck (q := p_b) rfl hp3) (Zf (Yl h fun x4 h => ?_))
 refine Zm (GL.appendGStr (e := 5) (s := x4) (u := p_s) (bytes := 1) h trivial rfl rfl rfl ⟨⟨_, _, rfl, rfl, rfl, rfl, rfl, rfl⟩⟩ rfl ?_)
 intro r6 H7 h
 obtain ⟨p8, hp9, h⟩ := h
 refine Zv (OV.nilCheck (q := p_b) rfl hp9) (Zf (GL.storeG (p := (p8.1, p8.2 + 1)) (v := slv r6) h trivial rfl rfl rfl rfl ?_))
 intro H10 h
 refine GL.nil (Zo (Zm (Zr (Za (Za (GL.nil ?_))))))
 exact Y2 I3 ⟨(List.length p_s : Int), .nilIface, rfl, h⟩
end
section
set_option maxRecDepth 100000
open Go Go.Proofs
def Qdr (C : Ctx) (p_v : Qa) (v0 : Nat × Nat) (v1 : Nat × Nat) (K : Heap → Prop) (H : Heap) : Prop :=
 nw (Qa.c p_v) (fun b1 H2 =>
 ldI H2 .u8 ((b1, 0).1, (b1, 0).2 + 0) fun x3 =>
 ift ((x3 : Int) == 1)
 (ldI H2 .i64 ((b1, 0).1, (b1, 0).2 + 1) fun x6 =>
 QaT C ((x6 : Int) == 1) (fun r8 H9 =>
 Qh C (some v0) r8 (fun r10 r11 H12 =>
 K H12) H9) H2)
 (ift ((x3 : Int) == 2)
 (ldI H2 .i64 ((b1, 0).1, (b1, 0).2 + 1) fun x14 =>
 QbS C x14 10 (fun r16 H17 =>
 Qh C (some v0) r16 (fun r18 r19 H20 =>
 K H20) H17) H2)
 (ift ((x3 : Int) == 3)
 (ldS H2 ((b1, 0).1, (b1, 0).2 + 2) fun x22 =>
 Qh C (some v0) x22 (fun r24 r25 H26 =>
 Qf C (some v0) 98 (fun r27 H28 =>
 K H28) H26) H2)
 (ift ((x3 : Int) == 4)
 (ldS H2 ((b1, 0).1, (b1, 0).2 + 2) fun x30 =>
 QcN C (some v0) x30 (fun H32 =>
 K H32) H2)
 (ift ((x3 : Int) == 5)
 (ldV H2 v1 fun x34 =>
 ldL H2 ((b1, 0).1, (b1, 0).2 + 3) fun x36 =>
 callU Tryz.prog C x34 [slv x36] H2 (fun v H38 => v = .tuple #[] ∧
 K H38))
 (ldS H2 ((b1, 0).1, (b1, 0).2 + 2) fun x39 =>
 Qh C (some v0) x39 (fun r41 r42 H43 =>
 ldL H43 ((b1, 0).1, (b1, 0).2 + 3) fun x44 =>
 ift (decide (((Sl.len x44 : Int) : Int) > 0))
 (ldV H43 v1 fun x47 =>
 ldL H43 ((b1, 0).1, (b1, 0).2 + 3) fun x49 =>
 callU Tryz.prog C x47 [slv x49] H43 (fun v H51 => v = .tuple #[] ∧
 K H51))
 (K H43)) H2)))))) H
theorem QeZ (C p_v v0 v1 K H) (h : Qdr C p_v v0 v1 K H) : QaV C p_v v0 v1 K H := by
 refine Ye Tryz.func98 rfl Tryz.ntmps98 [(0, .agg (Qa.c p_v).toArray), (1, pv (some v0)), (2, pv (some v1))] (Zo (GL.box (v := .agg (Qa.c p_v).toArray) (cs := Qa.c p_v) h trivial rfl rfl rfl ?_))
 intro b1 H2 h
 refine GL.nil (Zo (Zf (Yl h fun x3 h => ?_)))
 refine GL.nil (GC.block (Zo (Zi (.bool ((x3 : Int) == 1)) (Za (GL.nil (Yd h (fun u5 h => ?_) fun u5 h => ?_))))))
 refine GC.region (Zf (Yl h fun x6 h => ?_))
 refine Zi (.bool ((x6 : Int) == 1)) (Zc h Qdh ?_)
 rintro _ H9 ⟨r8, rfl, h⟩
 refine Zc h Qj ?_
 rintro _ H12 ⟨r10, r11, rfl, h⟩
 exact GL.ends (fun _ _ hf hs => QA rfl hf hs ⟨rfl, h⟩)
 refine Zo (Zi (.bool ((x3 : Int) == 2)) (Za (GL.nil (Yd h (fun u13 h => ?_) fun u13 h => ?_))))
 refine GC.region (Zf (Yl h fun x14 h => ?_))
 refine Zc h QdH ?_
 rintro _ H17 ⟨r16, rfl, h⟩
 refine Zc h Qj ?_
 rintro _ H20 ⟨r18, r19, rfl, h⟩
 exact GL.ends (fun _ _ hf hs => QA rfl hf hs ⟨rfl, h⟩)
 refine Zo (Zi (.bool ((x3 : Int) == 3)) (Za (GL.nil (Yd h (fun u21 h => ?_) fun u21 h => ?_))))
 refine Zo (Zf (Yl h fun x22 h => ?_))
 refine Zc h Qj ?_
 rintro _ H26 ⟨r24, r25, rfl, h⟩
 refine GL.nil (GC.region (Zc h Qi ?_))
 rintro _ H28 ⟨r27, rfl, h⟩
 exact GL.ends (fun _ _ hf hs => QA rfl hf hs ⟨rfl, h⟩)
 refine Zo (Zi (.bool ((x3 : Int) == 4)) (Za (GL.nil (Yd h (fun u29 h => ?_) fun u29 h => ?_))))
 refine GC.region (Zf (Yl h fun x30 h => ?_))
 refine Zc h QfD ?_
 rintro _ H32 ⟨rfl, h⟩
 exact GL.ends (fun _ _ hf hs => QA rfl hf hs ⟨rfl, h⟩)
 refine Zo (Zi (.bool ((x3 : Int) == 5)) (Za (GL.nil (Yd h (fun u33 h => ?_) fun u33 h => ?_))))
 refine GC.region (Yl h fun x34 h => ?_)
 refine Zf (Yl h fun x36 h => ?_)
 refine GL.callU (xv := x34) (vs := [slv x36]) h trivial rfl rfl rfl ?_
 rintro _ H38 ⟨rfl, h⟩
 exact GL.ends (fun _ _ hf hs => QA rfl hf hs ⟨rfl, h⟩)
 refine Zo (Zf (Yl h fun x39 h => ?_))
 refine Zc h Qj ?_
 rintro _ H43 ⟨r41, r42, rfl, h⟩
 refine GL.nil (Zo (Zf (Yl h fun x44 h => ?_)))
 refine Zq (Zi (.bool (decide (((Sl.len x44 : Int) : Int) > 0))) (GL.nil (Yd h (fun u46 h => ?_) fun u46 h => ?_)))
 refine GC.region (Yl h fun x47 h => ?_)
 refine Zf (Yl h fun x49 h => ?_)
 refine GL.callU (xv := x47) (vs := [slv x49]) h trivial rfl rfl rfl ?_
 rintro _ H51 ⟨rfl, h⟩
 exact GL.ends (fun _ _ hf hs => QA rfl hf hs ⟨rfl, h⟩)
 exact GC.ends (fun _ _ hf hs => QA rfl hf hs ⟨rfl, h⟩)
def Qbu (C : Ctx) (p_b : Bool) (K : Str → Heap → Prop) (H : Heap) : Prop :=
 Qak C p_b (fun r1 H2 =>
 K r1 H2) H
theorem Qc9 (C p_b K H) (h : Qbu C p_b K H) : QaT C p_b K H := by
 refine Ye Tryz.func99 rfl Tryz.ntmps99 [(0, .bool p_b)] (Zo (Za (GL.nil (Zo (Zm (Zc h Qbs ?_))))))
 rintro _ H2 ⟨r1, rfl, h⟩
 refine Za (GL.nil ?_)
 exact Y1 I3 ⟨r1, rfl, h⟩
def QdR (C : Ctx) (p_b : Option (Nat × Nat)) (p_s : Str) (K : Heap → Prop) (H : Heap) : Prop :=
 Qf C p_b 34 (fun r1 H2 =>
 lp (α := Int) 0 H2 (fun x3 J4 H5 =>
 ift (decide ((x3 : Int) < (List.length p_s : Int)))
 (jn (α := Unit) (fun x8 H9 =>
 J4 (w .i64 (x3 + 1)) H9)
 (fun J7 => ixs p_s x3 fun c11 =>
 ift ((((c11.toNat : Int) : Int) == 34) || (((c11.toNat : Int) : Int) == 92))
 (Qf C p_b 92 (fun r16 H17 =>
 Qf C p_b (c11.toNat : Int) (fun r18 H19 =>
 J7 () H19) H17) H5)
 (ift (((c11.toNat : Int) : Int) == 10)
 (Qh C p_b [92, 110] (fun r21 r22 H23 =>
 J7 () H23) H5)
 (ift (((c11.toNat : Int) : Int) == 9)
 (Qh C p_b [92, 116] (fun r25 r26 H27 =>
 J7 () H27) H5)
 (ift ((decide (((c11.toNat : Int) : Int) ≥ 32)) && (decide (((c11.toNat : Int) : Int) ≤ 126)))
 (Qf C p_b (c11.toNat : Int) (fun r30 H31 =>
 J7 () H31) H5)
 (Qh C p_b [92, 120] (fun r32 r33 H34 =>
 ixs [48, 49, 50, 51, 52, 53, 54, 55, 56, 57, 97, 98, 99, 100, 101, 102] (sShr .u8 (c11.toNat : Int) 4) fun c35 =>
 Qf C p_b (c35.toNat : Int) (fun r38 H39 =>
 ixs [48, 49, 50, 51, 52, 53, 54, 55, 56, 57, 97, 98, 99, 100, 101, 102] (bAnd .u8 (c11.toNat : Int) 15) fun c40 =>
 Qf C p_b (c40.toNat : Int) (fun r43 H44 =>
 J7 () H44) H39) H34) H5))))))
 (Qf C p_b 34 (fun r45 H46 =>
 K H46) H5))) H
theorem Qfz (C p_b p_s K H) (h : QdR C p_b p_s K H) : QcN C p_b p_s K H := by
 refine Ye Tryz.func101 rfl Tryz.ntmps101 [(0, pv p_b), (1, sv p_s)] (Zo (Zm (Zc h Qi ?_)))
 rintro _ H2 ⟨r1, rfl, h⟩
 refine GL.nil (GC.seq (Zo (Zm (Zr (Zm (GL.nil (GC.block (Yp h (fun x3 => [(10, .int .i64 x3), (0, pv p_b), (1, sv p_s), (9, .int .i64 (List.length p_s : Int))]) ?_))))))))
 intro x3 H5 J4 h
 refine Zo (Zi (.bool (decide ((x3 : Int) < (List.length p_s : Int)))) (GL.nil (GC.seq (Yd h (fun hc6 h => ?_) fun hc6 h => ?_))))
 refine GC.skip ?_
 obtain ⟨J7, h, hR10⟩ := h
 refine GC.join (α := Unit) J7 (fun _ => [(0, pv p_b), (1, sv p_s), (9, .int .i64 (List.length p_s : Int)), (10, .int .i64 x3)]) ?_ ?_
 refine GC.block (Zo (Zm (Za (GL.nil (Zo (Zm (Zm (Ys h fun c11 h => ?_))))))))
 refine Za (GL.nil (GC.block (Zo (Zm (Zi (.bool (((c11.toNat : Int) : Int) == 34)) (Zm (GL.cut0 3 [(34, .bool ((((c11.toNat : Int) : Int) == 34) || (((c11.toNat : Int) : Int) == 92))), (0, pv p_b), (1, sv p_s), (5, .int .u8 (c11.toNat : Int)), (9, .int .i64 (List.length p_s : Int)), (10, .int .i64 x3)] ?_ ?_)))))))
 rcases Zb (((c11.toNat : Int) : Int) == 34) with hc14 | hc14
 refine Zk hc14 (Zk hc14 (Zt hc14 ?_))
 exact GL.jump0 (fun _ _ h => h) () rfl ⟨(by rw [hc14]; rfl), rfl, rfl, rfl, rfl, rfl, trivial⟩
 refine Zu hc14 Ym (Zu hc14 (OV.ibin (v := .bool (((c11.toNat : Int) : Int) == 92)) rfl rfl rfl) (Zn hc14 ?_))
 exact GL.jump0 (fun _ _ h => h) () rfl ⟨(by rw [hc14]; rfl), rfl, rfl, rfl, rfl, rfl, trivial⟩
 refine Za (GL.nil (Yd h (fun hc15 h => ?_) fun hc15 h => ?_))
 refine Zo (Zm (Zc h Qi ?_))
 rintro _ H17 ⟨r16, rfl, h⟩
 refine GL.nil (GC.region (Zm (Zm (Zc h Qi ?_))))
 rintro _ H19 ⟨r18, rfl, h⟩
 exact Yj I3 () h
 refine Zo (Zm (Zi (.bool (((c11.toNat : Int) : Int) == 10)) (Za (GL.nil (Yd h (fun hc20 h => ?_) fun hc20 h => ?_)))))
 refine GC.region (Zm (Zc h Qj ?_))
 rintro _ H23 ⟨r21, r22, rfl, h⟩
 exact Yj I3 () h
 refine Zo (Zm (Zi (.bool (((c11.toNat : Int) : Int) == 9)) (Za (GL.nil (Yd h (fun hc24 h => ?_) fun hc24 h => ?_)))))
 refine GC.region (Zm (Zc h Qj ?_))
 rintro _ H27 ⟨r25, r26, rfl, h⟩
 exact Yj I3 () h
 refine Zo (Zm (Zi (.bool (decide (((c11.toNat : Int) : Int) ≥ 32))) (Zm (GL.cut0 3 [(56, .bool ((decide (((c11.toNat : Int) : Int) ≥ 32)) && (decide (((c11.toNat : Int) : Int) ≤ 126)))), (0, pv p_b), (1, sv p_s), (5, .int .u8 (c11.toNat : Int)), (9, .int .i64 (List.length p_s : Int)), (10, .int .i64 x3)] ?_ ?_))))
 rcases Zb (decide (((c11.toNat : Int) : Int) ≥ 32)) with hc28 | hc28
 refine Zu hc28 Ym (Zu hc28 (OV.ibin (v := .bool (decide (((c11.toNat : Int) : Int) ≤ 126))) rfl rfl rfl) (Zt hc28 ?_))
 exact GL.jump0 (fun _ _ h => h) () rfl ⟨(by rw [hc28]; rfl), rfl, rfl, rfl, rfl, rfl, trivial⟩
 refine Zk hc28 (Zk hc28 (Zn hc28 ?_))
 exact GL.jump0 (fun _ _ h => h) () rfl ⟨(by rw [hc28]; rfl), rfl, rfl, rfl, rfl, rfl, trivial⟩
 refine Za (GL.nil (Yd h (fun hc29 h => ?_) fun hc29 h => ?_))
 refine GC.region (Zm (Zm (Zc h Qi ?_)))
 rintro _ H31 ⟨r30, rfl, h⟩
 exact Yj I3 () h
 refine Zo (Zm (Zc h Qj ?_))
 rintro _ H34 ⟨r32, r33, rfl, h⟩
 refine GL.nil (Zo (Zm (Zm (Zv (OV.shr rfl rfl (by decide)) (Ys h fun c35 h => ?_)))))
 refine Zc h Qi ?_
 rintro _ H39 ⟨r38, rfl, h⟩
 refine GL.nil (GC.region (Zm (Zm (Zi (.int .u8 (bAnd .u8 (c11.toNat : Int) 15)) (Ys h fun c40 h => ?_)))))
 refine Zc h Qi ?_
 rintro _ H44 ⟨r43, rfl, h⟩
 exact Yj I3 () h
 intro x8 H9 h
 replace h := hR10 x8 H9 h
 refine GC.region (Zi (.int .i64 (w .i64 (x3 + 1))) (Zm ?_))
 exact Yj I3 (w .i64 (x3 + 1)) h
 refine GC.exit_to (fun _ _ h => h) (GC.region (Zm (Zc h Qi ?_)))
 rintro _ H46 ⟨r45, rfl, h⟩
 exact GL.ends (fun _ _ hf hs => QA rfl hf hs ⟨rfl, h⟩)
def QaX (C : Ctx) (p_b : Option (Nat × Nat)) (K : Str → Heap → Prop) (H : Heap) : Prop :=
 dr H fun Hs1 =>
 nck p_b fun p3 =>
 ldL Hs1 (p3.1, p3.2 + 1) fun x5 =>
 ((Sl.p x5 = none ∨ Sl.cap x5 ≠ 0) ∧ Sl.x x5 = none) ∧
 nck p_b fun p9 =>
 ldL Hs1 (p9.1, p9.2 + 1) fun x11 =>
 ust 5 (Sl.p x5) (Sl.len x11 : Int) (fun r14 H15 =>
 Heap.le Hs1 H15 ∧
 K r14 H15) H
theorem Qch (C p_b K H) (h : QaX C p_b K H) : Qp C p_b K H := by
 refine Ye Tryz.func102 rfl Tryz.ntmps102 [(0, pv p_b)] (Zo (Za (GL.nil (GC.seq ?_))))
 obtain ⟨Hs1, hle2, h⟩ := h
 refine GC.any (Hs := Hs1) (by kernel_rfl) hle2 (Zp 0 rfl Ym ?_)
 obtain ⟨p3, hp4, h⟩ := h
 refine Zp 1 rfl (OV.nilCheck (q := p_b) rfl hp4) (Zp 2 rfl Yf ?_)
 obtain ⟨x5, v6, h⟩ := h
 refine Zp 3 rfl (Yo v6) ?_
 obtain ⟨⟨h7, h8⟩, h⟩ := h
 refine Zp 4 rfl (OV.usd (s := x5) h7 h8 rfl) (Zp 5 rfl Ym ?_)
 obtain ⟨p9, hp10, h⟩ := h
 refine Zp 6 rfl (OV.nilCheck (q := p_b) rfl hp10) (Zp 7 rfl Yf ?_)
 obtain ⟨x11, v12, h⟩ := h
 refine Zp 8 rfl (Yo v12) (Zp 9 rfl (OV.lenSl rfl rfl) (GA.eff 10 rfl (by kernel_rfl) (GL.ust (e := 5) (p := (Sl.p x5)) (m := (Sl.len x11 : Int)) h trivial rfl rfl rfl rfl (by kernel_rfl) ?_)))
 intro r14 H15 h
 obtain ⟨hle13, h⟩ := h
 refine GA.back hle13 (Zp 11 rfl Ya (GA.done (by kernel_rfl) (GL.nil ?_)))
 exact Y1 I3 ⟨r14, rfl, h⟩
def QO (C : Ctx) (p_s : Sl) (p_f : Value) (K : Int → Heap → Prop) (H : Heap) : Prop :=
 lp (α := Int) 0 H (fun x1 J2 H3 =>
 ift (decide ((x1 : Int) < (Sl.len p_s : Int)))
 (ixa p_s x1 fun p5 =>
 ldT H3 Qa.c (p5.1, p5.2 + (x1 : Int).toNat * 4) fun x10 =>
 callU Tryz.prog C p_f [.agg (Qa.c x10).toArray] H3 (fun v H13 => ∃ (r12 : Bool), v = .bool r12 ∧
 ift r12
 (K x1 H13)
 (J2 (w .i64 (x1 + 1)) H13)))
 (K (-1) H3))
theorem QaE (C p_s p_f K H) (h : QO C p_s p_f K H) : Qt C p_s p_f K H := by
 refine Ye Tryz.func131 rfl Tryz.ntmps131 [(0, slv p_s), (1, p_f)] (Zo (Za (GL.nil (GC.seq (Zo (Zm (Zq (Zm (GL.nil (GC.block (Yp h (fun x1 => [(8, .int .i64 x1), (0, slv p_s), (1, p_f), (7, .int .i64 (Sl.len p_s : Int))]) ?_)))))))))))
 intro x1 H3 J2 h
 refine Zo (Zi (.bool (decide ((x1 : Int) < (Sl.len p_s : Int)))) (GL.nil (GC.seq (Yd h (fun u4 h => ?_) fun u4 h => ?_))))
 refine GC.skip (GC.seq (GC.block (Zo (Zm (Za (GL.nil (Zo (Zm (Zm (Zm (Yx h fun p5 h => ?_)))))))))))
 obtain ⟨x10, v11, h⟩ := h
 refine Zv (OV.loadT rfl rfl rfl v11) (GL.callU (xv := p_f) (vs := [.agg (Qa.c x10).toArray]) h trivial rfl rfl rfl ?_)
 rintro _ H13 ⟨r12, rfl, h⟩
 refine GL.nil (Yd h (fun u14 h => ?_) fun u14 h => ?_)
 refine Zo (Zm (Za (GL.nil ?_)))
 exact Y1 I3 ⟨x1, rfl, h⟩
 refine GC.skip_to (fun _ _ h => h) (GC.region (Zi (.int .i64 (w .i64 (x1 + 1))) (Zm ?_)))
 exact Yj I3 (w .i64 (x1 + 1)) h
 refine GC.exit_to (fun _ _ h => h) (Zo (Za (GL.nil ?_)))
 exact Y1 I3 ⟨(-1), rfl, h⟩
def QbH (C : Ctx) (p_x : Int) (p_y : Int) (K : Int → Heap → Prop) (H : Heap) : Prop :=
 QaP C p_x (fun r1 H2 =>
 QaP C p_y (fun r3 H4 =>
 ift r1
 (ift r3
 (K 0 H4)
 (K (-1) H4))
 (ift r3
 (K 1 H4)
 (ift (decide ((p_x : Int) < p_y))
 (K (-1) H4)
 (ift (decide ((p_x : Int) > p_y))
 (K 1 H4)
 (K 0 H4))))) H2) H
theorem QdC (C p_x p_y K H) (h : QbH C p_x p_y K H) : Qa2 C p_x p_y K H := by
 refine Ye Tryz.func132 rfl Tryz.ntmps132 [(0, .int .u8 p_x), (1, .int .u8 p_y)] (Zo (Za (GL.nil (Zo (Zm (Zc h Qb8 ?_))))))
 rintro _ H2 ⟨r1, rfl, h⟩
 refine Za (GL.nil (Zo (Zm (Zc h Qb8 ?_))))
 rintro _ H4 ⟨r3, rfl, h⟩
 refine Za (GL.nil (GC.seq (Zo (Zm (GL.nil (Yd h (fun hc5 h => ?_) fun hc5 h => ?_))))))
 refine GC.seq (Zo (Zm (GL.nil (Yd h (fun hc6 h => ?_) fun hc6 h => ?_))))
 refine Zo (Za (GL.nil ?_))
 exact Y1 I3 ⟨0, rfl, h⟩
 refine GC.skip (Zo (Za (GL.nil ?_)))
 exact Y1 I3 ⟨(-1), rfl, h⟩
 refine GC.skip (GC.seq (Zo (Zm (GL.nil (Yd h (fun hc7 h => ?_) fun hc7 h => ?_)))))
 refine Zo (Za (GL.nil ?_))
 exact Y1 I3 ⟨1, rfl, h⟩
 refine GC.skip (GC.seq (Zo (Zm (Zm (Zi (.bool (decide ((p_x : Int) < p_y))) (GL.nil (Yd h (fun hc8 h => ?_) fun hc8 h => ?_)))))))
 refine Zo (Za (GL.nil ?_))
 exact Y1 I3 ⟨(-1), rfl, h⟩
 refine GC.skip (GC.seq (Zo (Zm (Zm (Zi (.bool (decide ((p_x : Int) > p_y))) (GL.nil (Yd h (fun hc9 h => ?_) fun hc9 h => ?_)))))))
 refine Zo (Za (GL.nil ?_))
 exact Y1 I3 ⟨1, rfl, h⟩
 refine GC.skip (Zo (Za (GL.nil ?_)))
 exact Y1 I3 ⟨0, rfl, h⟩
def QcU (C : Ctx) (p_a : Str) (p_b : Str) (K : Int → Heap → Prop) (H : Heap) : Prop :=
 Qae C p_a [45] (fun r1 H2 =>
 Qae C p_b [45] (fun r3 H4 =>
 ift (r1 && r3)
 (dr H4 fun Hs7 =>
 slS p_b 1 (List.length p_b : Int) fun t9 =>
 slS p_a 1 (List.length p_a : Int) fun t15 =>
 QZ C t9 t15 (fun r22 H23 =>
 Heap.le Hs7 H23 ∧
 K r22 H23) H4)
 (ift r1
 (K (-1) H4)
 (ift r3
 (K 1 H4)
 (Qbi C (List.length p_a : Int) (List.length p_b : Int) (fun r26 H27 =>
 Qv C p_a p_b (fun r28 H29 =>
 nw ([.int .i64 r26, .int .i64 r28]) (fun b30 H31 =>
 Qa6 C (Sl.of (some (b30, 0)) 2 2) (fun r32 H33 =>
 K r32 H33) H31) H29) H27) H4)))) H2) H
theorem Qd6 (C p_a p_b K H) (h : QcU C p_a p_b K H) : QZ C p_a p_b K H := by
 refine Ye Tryz.func133 rfl Tryz.ntmps133 [(0, sv p_a), (1, sv p_b)] (Zo (Za (GL.nil (Zo (Zm (Zc h QbF ?_))))))
 rintro _ H2 ⟨r1, rfl, h⟩
 refine Zm (Zc h QbF ?_)
 rintro _ H4 ⟨r3, rfl, h⟩
 refine Za (Za (GL.nil (GC.seq (GC.block (Zo (Zm (Zm (GL.cut0 2 [(15, .bool (r1 && r3)), (0, sv p_a), (1, sv p_b), (5, .bool r1), (6, .bool r3)] ?_ ?_))))))))
 rcases Bool.eq_false_or_eq_true r1 with u5 | u5
 refine Zu u5 Ym (Zt u5 ?_)
 exact GL.jump0 (fun _ _ h => h) () rfl ⟨(by rw [u5]; rfl), rfl, rfl, rfl, rfl, trivial⟩
 refine Zk u5 (Zn u5 ?_)
 exact GL.jump0 (fun _ _ h => h) () rfl ⟨(by rw [u5]; rfl), rfl, rfl, rfl, rfl, trivial⟩
 refine Za (GL.nil (Yd h (fun u6 h => ?_) fun u6 h => ?_))
 refine GC.seq ?_
 obtain ⟨Hs7, hle8, h⟩ := h
 refine GC.any (Hs := Hs7) (by kernel_rfl) hle8 (Zp 0 rfl Ym ?_)
 obtain ⟨h10, h11, h12, t9, h13, h⟩ := h
 refine Zp 1 rfl (OV.sliceStr (s := p_b) h10 h11 h12 h13 rfl rfl rfl rfl rfl rfl) (Zp 2 rfl Ym ?_)
 obtain ⟨h16, h17, h18, t15, h19, h⟩ := h
 refine Zp 3 rfl (OV.sliceStr (s := p_a) h16 h17 h18 h19 rfl rfl rfl rfl rfl rfl) (GA.eff 4 rfl (by kernel_rfl) (Zc h Qeg ?_))
 rintro _ H23 ⟨r22, rfl, h⟩
 obtain ⟨hle21, h⟩ := h
 refine GA.back hle21 (Zp 5 rfl Ya (GA.done (by kernel_rfl) (GL.nil ?_)))
 exact Y1 I3 ⟨r22, rfl, h⟩
 refine Zo (Zm (Za (GL.nil (Yd h (fun u24 h => ?_) fun u24 h => ?_))))
 refine Zo (Za (GL.nil ?_))
 exact Y1 I3 ⟨(-1), rfl, h⟩
 refine Zo (Zm (Za (GL.nil (Yd h (fun u25 h => ?_) fun u25 h => ?_))))
 refine Zo (Za (GL.nil ?_))
 exact Y1 I3 ⟨1, rfl, h⟩
 refine GC.skip_to (fun _ _ h => h) (Zo (Zm (Zr (Zm (Zr (Zc h Qee ?_))))))
 rintro _ H27 ⟨r26, rfl, h⟩
 refine Zm (Zm (Zc h Q0 ?_))
 rintro _ H29 ⟨r28, rfl, h⟩
 refine GL.buildSlice (cs := [.int .i64 r26, .int .i64 r28]) h trivial rfl (vs := [(0, .int .i64 r26), (1, .int .i64 r28)]) rfl ⟨3, fun _ => by kernel_rfl⟩ ?_
 intro b30 H31 h
 refine Zc h QcQ ?_
 rintro _ H33 ⟨r32, rfl, h⟩
 refine Za (GL.nil ?_)
 exact Y1 I3 ⟨r32, rfl, h⟩
def QbG (C : Ctx) (p_x : Int) (p_y : Int) (K : Int → Heap → Prop) (H : Heap) : Prop :=
 QaO C p_x (fun r1 H2 =>
 QaO C p_y (fun r3 H4 =>
 ift r1
 (ift r3
 (K 0 H4)
 (K (-1) H4))
 (ift r3
 (K 1 H4)
 (ift (decide ((p_x : Int) < p_y))
 (K (-1) H4)
 (ift (decide ((p_x : Int) > p_y))
 (K 1 H4)
 (K 0 H4))))) H2) H
theorem QdB (C p_x p_y K H) (h : QbG C p_x p_y K H) : Qa1 C p_x p_y K H := by
 refine Ye Tryz.func134 rfl Tryz.ntmps134 [(0, .int .i64 p_x), (1, .int .i64 p_y)] (Zo (Za (GL.nil (Zo (Zm (Zc h Qb7 ?_))))))
 rintro _ H2 ⟨r1, rfl, h⟩
 refine Za (GL.nil (Zo (Zm (Zc h Qb7 ?_))))
 rintro _ H4 ⟨r3, rfl, h⟩
 refine Za (GL.nil (GC.seq (Zo (Zm (GL.nil (Yd h (fun u5 h => ?_) fun u5 h => ?_))))))
 refine GC.seq (Zo (Zm (GL.nil (Yd h (fun u6 h => ?_) fun u6 h => ?_))))
 refine Zo (Za (GL.nil ?_))
 exact Y1 I3 ⟨0, rfl, h⟩
 refine GC.skip (Zo (Za (GL.nil ?_)))
 exact Y1 I3 ⟨(-1), rfl, h⟩
 refine GC.skip (GC.seq (Zo (Zm (GL.nil (Yd h (fun u7 h => ?_) fun u7 h => ?_)))))
 refine Zo (Za (GL.nil ?_))
 exact Y1 I3 ⟨1, rfl, h⟩
 refine GC.skip (GC.seq (Zo (Zm (Zm (Zi (.bool (decide ((p_x : Int) < p_y))) (GL.nil (Yd h (fun u8 h => ?_) fun u8 h => ?_)))))))
 refine Zo (Za (GL.nil ?_))
 exact Y1 I3 ⟨(-1), rfl, h⟩
 refine GC.skip (GC.seq (Zo (Zm (Zm (Zi (.bool (decide ((p_x : Int) > p_y))) (GL.nil (Yd h (fun u9 h => ?_) fun u9 h => ?_)))))))
 refine Zo (Za (GL.nil ?_))
 exact Y1 I3 ⟨1, rfl, h⟩
 refine GC.skip (Zo (Za (GL.nil ?_)))
 exact Y1 I3 ⟨0, rfl, h⟩
def Qds (C : Ctx) (p_s : Str) (K : Int → Bool → Heap → Prop) (H : Heap) : Prop :=
 QaU C p_s [45] (fun r1 H2 =>
 jn (α := Bool) (fun b3 H9 =>
 jn (α := Bool) (fun b10 H18 =>
 ift b10
 (K 0 false H18)
 (K (List.length r1 : Int) true H18))
 (fun J11 => ift b3
 (J11 true H9)
 (ixs r1 0 fun c14 =>
 J11 ((((c14.toNat : Int) : Int) == 48) && (!(p_s == ([48] : Str)))) H9)))
 (fun J4 => ift (r1 == ([] : Str))
 (J4 true H2)
 (Q5 C r1 [48, 49, 50, 51, 52, 53, 54, 55, 56, 57] (fun r7 H8 =>
 J4 (!(r7 == ([] : Str))) H8) H2))) H
theorem Qe0 (C p_s K H) (h : Qds C p_s K H) : Qcl C p_s K H := by
 refine Ye Tryz.func135 rfl Tryz.ntmps135 [(0, sv p_s)] (Zo (Za (Za (GL.nil (Zo (Zm (Zc h Qdi ?_)))))))
 rintro _ H2 ⟨r1, rfl, h⟩
 refine Za (GL.nil (GC.seq (Zo (Zm (Zv (OV.sbin (a := r1) (b := ([] : Str)) (v := .bool (r1 == ([] : Str))) rfl rfl rfl) (Zm ?_))))))
 obtain ⟨J4, h, hR5⟩ := h
 refine GL.cut (α := Bool) 4 J4 (fun b3 => [(13, .bool b3), (0, sv p_s), (4, sv r1)]) ?_ ?_
 rcases h.em with ⟨u6, h⟩ | ⟨u6, h⟩
 refine Zk u6 (Zk u6 (Zk u6 (Zt u6 ?_)))
 exact Yj I3 true h
 refine Zu u6 Ym (GL.call h (Yt u6) rfl Qe9 (vs := [sv r1, sv [48, 49, 50, 51, 52, 53, 54, 55, 56, 57]]) rfl ?_)
 rintro _ H8 ⟨r7, rfl, h⟩
 refine Zu u6 (OV.sbin (a := r7) (b := ([] : Str)) (v := .bool (!(r7 == ([] : Str)))) rfl rfl rfl) (Zn u6 ?_)
 exact Yj I3 (!(r7 == ([] : Str))) h
 intro b3 H9 h
 replace h := hR5 b3 H9 h
 refine Zm ?_
 obtain ⟨J11, h, hR12⟩ := h
 refine GL.cut (α := Bool) 8 J11 (fun b10 => [(22, .bool b10), (4, sv r1)]) ?_ ?_
 rcases h.em with ⟨u13, h⟩ | ⟨u13, h⟩
 refine Zk u13 (Zk u13 (Zk u13 (Zk u13 (GL.skip ⟨_, rfl, .inr rfl⟩ rfl (GL.skip ⟨_, rfl, .inr rfl⟩ rfl (Zk u13 (Zt u13 ?_)))))))
 exact Yj I3 true h
 refine Zu u13 Ym ?_
 obtain ⟨c14, ha15, hb16, h⟩ := h
 refine Zu u13 (OV.indexStr rfl rfl rfl ha15 hb16) (Zu u13 (OV.ibin (v := .bool (((c14.toNat : Int) : Int) == 48)) rfl rfl rfl) (Zu u13 Ym (GL.cut0 3 [(21, .bool ((((c14.toNat : Int) : Int) == 48) && (!(p_s == ([48] : Str))))), (4, sv r1), (14, .bool b3)] ?_ ?_)))
 rcases Zb (((c14.toNat : Int) : Int) == 48) with u17 | u17
 refine Zu u17 Ym (Zu u17 (OV.sbin (a := p_s) (b := ([48] : Str)) (v := .bool (!(p_s == ([48] : Str)))) rfl rfl rfl) (Zu u13 (OV.pickT rfl u17 rfl) ?_))
 exact GL.jump0 (fun _ _ h => h) () rfl ⟨(by rw [u17]; rfl), rfl, rfl, trivial⟩
 refine Zk u17 (Zk u17 (Zu u13 (OV.pickF rfl u17 rfl) ?_))
 exact GL.jump0 (fun _ _ h => h) () rfl ⟨(by rw [u17]; rfl), rfl, rfl, trivial⟩
 refine Zn u13 ?_
 exact Yj I3 ((((c14.toNat : Int) : Int) == 48) && (!(p_s == ([48] : Str)))) h
 intro b10 H18 h
 replace h := hR12 b10 H18 h
 refine GL.nil (Yd h (fun u19 h => ?_) fun u19 h => ?_)
 refine Zo (Za (Za (GL.nil ?_)))
 exact Y2 I3 ⟨0, false, rfl, h⟩
 refine GC.skip (Zo (Zm (Zr (Za (Za (GL.nil ?_))))))
 exact Y2 I3 ⟨(List.length r1 : Int), true, rfl, h⟩
def QdM (C : Ctx) (p_s : Str) (p_sep : Str) (K : Str → Str → Bool → Heap → Prop) (H : Heap) : Prop :=
 QaR C p_s p_sep (fun r1 r2 r3 H4 =>
 K r1 r2 r3 H4) H
theorem Qfu (C p_s p_sep K H) (h : QdM C p_s p_sep K H) : QcK C p_s p_sep K H := by
 refine Ye Tryz.func136 rfl Tryz.ntmps136 [(0, sv p_s), (1, sv p_sep)] (Zo (Za (Za (Za (GL.nil (Zo (Zm (Zm (Zc h QbW ?_)))))))))
 rintro _ H4 ⟨r1, r2, r3, rfl, h⟩
 refine Yv (sv r1) rfl rfl (Yv (sv r2) rfl rfl (Yv (.bool r3) rfl rfl (Za (Za (Za (GL.nil ?_))))))
 exact Y3 I3 ⟨r1, r2, r3, rfl, h⟩
def Qen (C : Ctx) (p_s : Str) (K : Bool → Heap → Prop) (H : Heap) : Prop :=
 jn (α := Bool) (fun b2 H9 =>
 jn (α := Bool) (fun b10 H17 =>
 ift b10
 (K false H17)
 (lp (α := Int) 0 H17 (fun x19 J20 H21 =>
 ift (decide ((x19 : Int) < (List.length p_s : Int)))
 (ixs p_s x19 fun c23 =>
 ift (!(((((decide (((c23.toNat : Int) : Int) ≥ 97)) && (decide (((c23.toNat : Int) : Int) ≤ 122))) || ((decide (((c23.toNat : Int) : Int) ≥ 65)) && (decide (((c23.toNat : Int) : Int) ≤ 90)))) || ((decide (((c23.toNat : Int) : Int) ≥ 48)) && (decide (((c23.toNat : Int) : Int) ≤ 57)))) || (((c23.toNat : Int) : Int) == 95)))
 (K false H21)
 (J20 (w .i64 (x19 + 1)) H21))
 (K true H21))))
 (fun J11 => ift b2
 (J11 true H9)
 (ixs p_s 0 fun c14 =>
 J11 (decide (((c14.toNat : Int) : Int) > 122)) H9)))
 (fun J3 => ift ((p_s == ([] : Str)) || (decide (((List.length p_s : Int) : Int) > 32)))
 (J3 true H)
 (ixs p_s 0 fun c6 =>
 J3 (decide (((c6.toNat : Int) : Int) < 97)) H))
theorem QfY (C p_s K H) (h : Qen C p_s K H) : Qa8 C p_s K H := by
 refine Ye Tryz.func137 rfl Tryz.ntmps137 [(0, sv p_s)] (Zo (Za (GL.nil (GC.seq (Zo (Zm (Zv (OV.sbin (a := p_s) (b := ([] : Str)) (v := .bool (p_s == ([] : Str))) rfl rfl rfl) (Zm (GL.cut0 4 [(11, .bool ((p_s == ([] : Str)) || (decide (((List.length p_s : Int) : Int) > 32)))), (0, sv p_s)] ?_ ?_)))))))))
 rcases Zb (p_s == ([] : Str)) with hc1 | hc1
 refine Zk hc1 (Zk hc1 (Zk hc1 (Zt hc1 ?_)))
 exact GL.jump0 (fun _ _ h => h) () rfl ⟨(by rw [hc1]; rfl), rfl, trivial⟩
 refine Zu hc1 Ym (Zu hc1 (OV.lenStr rfl rfl) (Zu hc1 (OV.ibin (v := .bool (decide (((List.length p_s : Int) : Int) > 32))) rfl rfl rfl) (Zn hc1 ?_)))
 exact GL.jump0 (fun _ _ h => h) () rfl ⟨(by rw [hc1]; rfl), rfl, trivial⟩
 refine Zm ?_
 obtain ⟨J3, h, hR4⟩ := h
 refine GL.cut (α := Bool) 4 J3 (fun b2 => [(16, .bool b2), (0, sv p_s)]) ?_ ?_
 rcases h.em with ⟨hc5, h⟩ | ⟨hc5, h⟩
 refine Zk hc5 (Zk hc5 (Zk hc5 (Zt hc5 ?_)))
 exact Yj I3 true h
 refine Zu hc5 Ym ?_
 obtain ⟨c6, ha7, hb8, h⟩ := h
 refine Zu hc5 (OV.indexStr rfl rfl rfl ha7 hb8) (Zu hc5 (OV.ibin (v := .bool (decide (((c6.toNat : Int) : Int) < 97))) rfl rfl rfl) (Zn hc5 ?_))
 exact Yj I3 (decide (((c6.toNat : Int) : Int) < 97)) h
 intro b2 H9 h
 replace h := hR4 b2 H9 h
 refine Zm ?_
 obtain ⟨J11, h, hR12⟩ := h
 refine GL.cut (α := Bool) 4 J11 (fun b10 => [(21, .bool b10), (0, sv p_s)]) ?_ ?_
 rcases h.em with ⟨hc13, h⟩ | ⟨hc13, h⟩
 refine Zk hc13 (Zk hc13 (Zk hc13 (Zt hc13 ?_)))
 exact Yj I3 true h
 refine Zu hc13 Ym ?_
 obtain ⟨c14, ha15, hb16, h⟩ := h
 refine Zu hc13 (OV.indexStr rfl rfl rfl ha15 hb16) (Zu hc13 (OV.ibin (v := .bool (decide (((c14.toNat : Int) : Int) > 122))) rfl rfl rfl) (Zn hc13 ?_))
 exact Yj I3 (decide (((c14.toNat : Int) : Int) > 122)) h
 intro b10 H17 h
 replace h := hR12 b10 H17 h
 refine GL.nil (Yd h (fun hc18 h => ?_) fun hc18 h => ?_)
 refine Zo (Za (GL.nil ?_))
 exact Y1 I3 ⟨false, rfl, h⟩
 refine GC.skip (GC.seq (Zo (Zm (Zr (Zm (GL.nil (GC.block (Yp h (fun x19 => [(24, .int .i64 x19), (0, sv p_s), (23, .int .i64 (List.length p_s : Int))]) ?_))))))))
 intro x19 H21 J20 h
 refine Zo (Zi (.bool (decide ((x19 : Int) < (List.length p_s : Int)))) (GL.nil (GC.seq (Yd h (fun hc22 h => ?_) fun hc22 h => ?_))))
 refine GC.skip (GC.seq (GC.block (Zo (Zm (Za (GL.nil (Zo (Zm (Zm (Ys h fun c23 h => ?_))))))))))
 refine Za (GL.nil (Zo (Zm (Zi (.bool (decide (((c23.toNat : Int) : Int) ≥ 97))) (Zm (GL.cut0 3 [(35, .bool ((decide (((c23.toNat : Int) : Int) ≥ 97)) && (decide (((c23.toNat : Int) : Int) ≤ 122)))), (0, sv p_s), (4, .int .u8 (c23.toNat : Int)), (23, .int .i64 (List.length p_s : Int)), (24, .int .i64 x19)] ?_ ?_))))))
 rcases Zb (decide (((c23.toNat : Int) : Int) ≥ 97)) with hc26 | hc26
 refine Zu hc26 Ym (Zu hc26 (OV.ibin (v := .bool (decide (((c23.toNat : Int) : Int) ≤ 122))) rfl rfl rfl) (Zt hc26 ?_))
 exact GL.jump0 (fun _ _ h => h) () rfl ⟨(by rw [hc26]; rfl), rfl, rfl, rfl, rfl, trivial⟩
 refine Zk hc26 (Zk hc26 (Zn hc26 ?_))
 exact GL.jump0 (fun _ _ h => h) () rfl ⟨(by rw [hc26]; rfl), rfl, rfl, rfl, rfl, trivial⟩
 refine Zm (GL.cut0 7 [(43, .bool (((decide (((c23.toNat : Int) : Int) ≥ 97)) && (decide (((c23.toNat : Int) : Int) ≤ 122))) || ((decide (((c23.toNat : Int) : Int) ≥ 65)) && (decide (((c23.toNat : Int) : Int) ≤ 90))))), (0, sv p_s), (4, .int .u8 (c23.toNat : Int)), (23, .int .i64 (List.length p_s : Int)), (24, .int .i64 x19)] ?_ ?_)
 rcases Zb ((decide (((c23.toNat : Int) : Int) ≥ 97)) && (decide (((c23.toNat : Int) : Int) ≤ 122))) with hc27 | hc27
 refine Zk hc27 (Zk hc27 (Zk hc27 (GL.skip ⟨_, rfl, .inr rfl⟩ rfl (GL.skip ⟨_, rfl, .inr rfl⟩ rfl (Zk hc27 (Zt hc27 ?_))))))
 exact GL.jump0 (fun _ _ h => h) () rfl ⟨(by rw [hc27]; rfl), rfl, rfl, rfl, rfl, trivial⟩
 refine Zu hc27 Ym (Zu hc27 (OV.ibin (v := .bool (decide (((c23.toNat : Int) : Int) ≥ 65))) rfl rfl rfl) (Zu hc27 Ym (GL.cut0 3 [(42, .bool ((decide (((c23.toNat : Int) : Int) ≥ 65)) && (decide (((c23.toNat : Int) : Int) ≤ 90)))), (0, sv p_s), (4, .int .u8 (c23.toNat : Int)), (23, .int .i64 (List.length p_s : Int)), (24, .int .i64 x19), (36, .bool ((decide (((c23.toNat : Int) : Int) ≥ 97)) && (decide (((c23.toNat : Int) : Int) ≤ 122))))] ?_ ?_)))
 rcases Zb (decide (((c23.toNat : Int) : Int) ≥ 65)) with hc28 | hc28
 refine Zu hc28 Ym (Zu hc28 (OV.ibin (v := .bool (decide (((c23.toNat : Int) : Int) ≤ 90))) rfl rfl rfl) (Zu hc27 (OV.pickT rfl hc28 rfl) ?_))
 exact GL.jump0 (fun _ _ h => h) () rfl ⟨(by rw [hc28]; rfl), rfl, rfl, rfl, rfl, rfl, trivial⟩
 refine Zk hc28 (Zk hc28 (Zu hc27 (OV.pickF rfl hc28 rfl) ?_))
 exact GL.jump0 (fun _ _ h => h) () rfl ⟨(by rw [hc28]; rfl), rfl, rfl, rfl, rfl, rfl, trivial⟩
 refine Zn hc27 ?_
 exact GL.jump0 (fun _ _ h => h) () rfl ⟨(by rw [hc27]; rfl), rfl, rfl, rfl, rfl, trivial⟩
 refine Zm (GL.cut0 7 [(51, .bool ((((decide (((c23.toNat : Int) : Int) ≥ 97)) && (decide (((c23.toNat : Int) : Int) ≤ 122))) || ((decide (((c23.toNat : Int) : Int) ≥ 65)) && (decide (((c23.toNat : Int) : Int) ≤ 90)))) || ((decide (((c23.toNat : Int) : Int) ≥ 48)) && (decide (((c23.toNat : Int) : Int) ≤ 57))))), (0, sv p_s), (4, .int .u8 (c23.toNat : Int)), (23, .int .i64 (List.length p_s : Int)), (24, .int .i64 x19)] ?_ ?_)
 rcases Zb (((decide (((c23.toNat : Int) : Int) ≥ 97)) && (decide (((c23.toNat : Int) : Int) ≤ 122))) || ((decide (((c23.toNat : Int) : Int) ≥ 65)) && (decide (((c23.toNat : Int) : Int) ≤ 90)))) with hc29 | hc29
 refine Zk hc29 (Zk hc29 (Zk hc29 (GL.skip ⟨_, rfl, .inr rfl⟩ rfl (GL.skip ⟨_, rfl, .inr rfl⟩ rfl (Zk hc29 (Zt hc29 ?_))))))
 exact GL.jump0 (fun _ _ h => h) () rfl ⟨(by rw [hc29]; rfl), rfl, rfl, rfl, rfl, trivial⟩
 refine Zu hc29 Ym (Zu hc29 (OV.ibin (v := .bool (decide (((c23.toNat : Int) : Int) ≥ 48))) rfl rfl rfl) (Zu hc29 Ym (GL.cut0 3 [(50, .bool ((decide (((c23.toNat : Int) : Int) ≥ 48)) && (decide (((c23.toNat : Int) : Int) ≤ 57)))), (0, sv p_s), (4, .int .u8 (c23.toNat : Int)), (23, .int .i64 (List.length p_s : Int)), (24, .int .i64 x19), (44, .bool (((decide (((c23.toNat : Int) : Int) ≥ 97)) && (decide (((c23.toNat : Int) : Int) ≤ 122))) || ((decide (((c23.toNat : Int) : Int) ≥ 65)) && (decide (((c23.toNat : Int) : Int) ≤ 90)))))] ?_ ?_)))
 rcases Zb (decide (((c23.toNat : Int) : Int) ≥ 48)) with hc30 | hc30
 refine Zu hc30 Ym (Zu hc30 (OV.ibin (v := .bool (decide (((c23.toNat : Int) : Int) ≤ 57))) rfl rfl rfl) (Zu hc29 (OV.pickT rfl hc30 rfl) ?_))
 exact GL.jump0 (fun _ _ h => h) () rfl ⟨(by rw [hc30]; rfl), rfl, rfl, rfl, rfl, rfl, trivial⟩
 refine Zk hc30 (Zk hc30 (Zu hc29 (OV.pickF rfl hc30 rfl) ?_))
 exact GL.jump0 (fun _ _ h => h) () rfl ⟨(by rw [hc30]; rfl), rfl, rfl, rfl, rfl, rfl, trivial⟩
 refine Zn hc29 ?_
 exact GL.jump0 (fun _ _ h => h) () rfl ⟨(by rw [hc29]; rfl), rfl, rfl, rfl, rfl, trivial⟩
 refine Zm (GL.cut0 3 [(55, .bool (((((decide (((c23.toNat : Int) : Int) ≥ 97)) && (decide (((c23.toNat : Int) : Int) ≤ 122))) || ((decide (((c23.toNat : Int) : Int) ≥ 65)) && (decide (((c23.toNat : Int) : Int) ≤ 90)))) || ((decide (((c23.toNat : Int) : Int) ≥ 48)) && (decide (((c23.toNat : Int) : Int) ≤ 57)))) || (((c23.toNat : Int) : Int) == 95))), (0, sv p_s), (23, .int .i64 (List.length p_s : Int)), (24, .int .i64 x19)] ?_ ?_)
 rcases Zb ((((decide (((c23.toNat : Int) : Int) ≥ 97)) && (decide (((c23.toNat : Int) : Int) ≤ 122))) || ((decide (((c23.toNat : Int) : Int) ≥ 65)) && (decide (((c23.toNat : Int) : Int) ≤ 90)))) || ((decide (((c23.toNat : Int) : Int) ≥ 48)) && (decide (((c23.toNat : Int) : Int) ≤ 57)))) with hc31 | hc31
 refine Zk hc31 (Zk hc31 (Zt hc31 ?_))
 exact GL.jump0 (fun _ _ h => h) () rfl ⟨(by rw [hc31]; rfl), rfl, rfl, rfl, trivial⟩
 refine Zu hc31 Ym (Zu hc31 (OV.ibin (v := .bool (((c23.toNat : Int) : Int) == 95)) rfl rfl rfl) (Zn hc31 ?_))
 exact GL.jump0 (fun _ _ h => h) () rfl ⟨(by rw [hc31]; rfl), rfl, rfl, rfl, trivial⟩
 refine Zv (OV.not rfl) (GL.nil (Yd h (fun hc32 h => ?_) fun hc32 h => ?_))
 refine Zo (Za (GL.nil ?_))
 exact Y1 I3 ⟨false, rfl, h⟩
 refine GC.skip_to (fun _ _ h => h) (GC.region (Zi (.int .i64 (w .i64 (x19 + 1))) (Zm ?_)))
 exact Yj I3 (w .i64 (x19 + 1)) h
 refine GC.exit_to (fun _ _ h => h) (Zo (Za (GL.nil ?_)))
 exact Y1 I3 ⟨true, rfl, h⟩
def Qay (C : Ctx) (p_b : Option (Nat × Nat)) (K : Heap → Prop) (H : Heap) : Prop :=
 nck p_b fun p1 =>
 ldP H (p1.1, p1.2 + 0) fun x3 =>
 ift (Option.isNone x3)
 (∃ p7, p_b = some p7 ∧ cvU p7 (
 cvP 136 2 p7 (
 nck p_b fun p10 =>
 sttG (p10.1, p10.2 + 0) (pv (some p7)) (fun H12 =>
 K H12) H) H) H)
 (nck p_b fun p13 =>
 ldP H (p13.1, p13.2 + 0) fun x15 =>
 ∃ p17, x15 = some p17 ∧ p_b = some p17 ∧
 ift false
 (False)
 (K H))
theorem QbL (C p_b K H) (h : Qay C p_b K H) : QC C p_b K H := by
 refine Ye Tryz.func138 rfl Tryz.ntmps138 [(0, pv p_b)] (Zo (Zm ?_))
 obtain ⟨p1, hp2, h⟩ := h
 refine Zv (OV.nilCheck (q := p_b) rfl hp2) (Zf (Yl h fun x3 h => ?_))
 refine Zv (OV.eqlNil (p := x3) rfl rfl rfl) (GL.nil (Yd h (fun u5 h => ?_) fun u5 h => ?_))
 refine GC.region (Zm (Zm ?_))
 obtain ⟨p7, hp8, hu6, h⟩ := h
 refine Zv (OV.cvU (q := p_b) (p := p7) hp8 hu6 rfl rfl rfl ⟨_, rfl, by decide⟩) (Zv (OV.ext Qcm (vs := [pv (some p7)]) (v := pv (some p7)) rfl (fun w => QiU _ w)) ?_)
 obtain ⟨hu9, h⟩ := h
 refine Zv (OV.cvP (T := 136) (len := 2) (p := p7) hu9 rfl rfl rfl ⟨_, rfl⟩ (by kernel_rfl)) ?_
 obtain ⟨p10, hp11, h⟩ := h
 refine Zv (OV.nilCheck (q := p_b) rfl hp11) (Zf (GL.storeG (p := (p10.1, p10.2 + 0)) (v := pv (some p7)) h trivial rfl rfl rfl rfl ?_))
 intro H12 h
 exact GL.ends (fun _ _ hf hs => QA rfl hf hs ⟨rfl, h⟩)
 refine Zo (Zm ?_)
 obtain ⟨p13, hp14, h⟩ := h
 refine Zv (OV.nilCheck (q := p_b) rfl hp14) (Zf (Yl h fun x15 h => ?_))
 refine Zm ?_
 obtain ⟨p17, hp18, hq19, h⟩ := h
 refine Zv (OV.neqSame (p := x15) (q := p_b) rfl rfl hp18 hq19 rfl rfl) (GL.nil (Yd h (fun u20 h => ?_) fun u20 h => ?_))
 exact GC.never h
 exact GC.ends (fun _ _ hf hs => QA rfl hf hs ⟨rfl, h⟩)
def Qab (C : Ctx) (p_b : Bool) (K : Str → Heap → Prop) (H : Heap) : Prop :=
 ift p_b
 (K [116, 114, 117, 101] H)
 (K [102, 97, 108, 115, 101] H)
theorem Qbp (C p_b K H) (h : Qab C p_b K H) : Qak C p_b K H := by
 refine Ye Tryz.func139 rfl Tryz.ntmps139 [(0, .bool p_b)] (Zo (Za (GL.nil (GC.seq (Zo (Zm (GL.nil (Yd h (fun u1 h => ?_) fun u1 h => ?_))))))))
 refine Zo (Za (GL.nil ?_))
 exact Y1 I3 ⟨[116, 114, 117, 101], rfl, h⟩
 refine GC.skip (Zo (Za (GL.nil ?_)))
 exact Y1 I3 ⟨[102, 97, 108, 115, 101], rfl, h⟩
def Qcd (C : Ctx) (p_x : Int) (K : Bool → Heap → Prop) (H : Heap) : Prop :=
 K ((p_x : Int) != p_x) H
theorem Qd3 (C p_x K H) (h : Qcd C p_x K H) : QaP C p_x K H := by
 refine Ye Tryz.func151 rfl Tryz.ntmps151 [(0, .int .u8 p_x)] (Zo (Za (GL.nil (Zo (Zm (Zm (Zi (.bool ((p_x : Int) != p_x)) (Za (GL.nil ?_)))))))))
 exact Y1 I3 ⟨((p_x : Int) != p_x), rfl, h⟩
def QbJ (C : Ctx) (p_s : Str) (p_prefix : Str) (K : Bool → Heap → Prop) (H : Heap) : Prop :=
 Qs C p_s p_prefix (fun r1 H2 =>
 K r1 H2) H
theorem QdE (C p_s p_prefix K H) (h : QbJ C p_s p_prefix K H) : Qae C p_s p_prefix K H := by
 refine Ye Tryz.func152 rfl Tryz.ntmps152 [(0, sv p_s), (1, sv p_prefix)] (Zo (Za (GL.nil (Zo (Zm (Zm (Zc h Q1 ?_)))))))
 rintro _ H2 ⟨r1, rfl, h⟩
 refine Za (GL.nil ?_)
 exact Y1 I3 ⟨r1, rfl, h⟩
def Qcb (C : Ctx) (p_x : Int) (p_y : Int) (K : Int → Heap → Prop) (H : Heap) : Prop :=
 Qbe C p_x (fun r1 H2 =>
 Qbe C p_y (fun r3 H4 =>
 ift r1
 (ift r3
 (K 0 H4)
 (K (-1) H4))
 (ift r3
 (K 1 H4)
 (ift (decide ((p_x : Int) < p_y))
 (K (-1) H4)
 (ift (decide ((p_x : Int) > p_y))
 (K 1 H4)
 (K 0 H4))))) H2) H
theorem Qd0 (C p_x p_y K H) (h : Qcb C p_x p_y K H) : Qbi C p_x p_y K H := by
 refine Ye Tryz.func153 rfl Tryz.ntmps153 [(0, .int .i64 p_x), (1, .int .i64 p_y)] (Zo (Za (GL.nil (Zo (Zm (Zc h Qc0 ?_))))))
 rintro _ H2 ⟨r1, rfl, h⟩
 refine Za (GL.nil (Zo (Zm (Zc h Qc0 ?_))))
 rintro _ H4 ⟨r3, rfl, h⟩
 refine Za (GL.nil (GC.seq (Zo (Zm (GL.nil (Yd h (fun u5 h => ?_) fun u5 h => ?_))))))
 refine GC.seq (Zo (Zm (GL.nil (Yd h (fun u6 h => ?_) fun u6 h => ?_))))
 refine Zo (Za (GL.nil ?_))
 exact Y1 I3 ⟨0, rfl, h⟩
 refine GC.skip (Zo (Za (GL.nil ?_)))
 exact Y1 I3 ⟨(-1), rfl, h⟩
 refine GC.skip (GC.seq (Zo (Zm (GL.nil (Yd h (fun u7 h => ?_) fun u7 h => ?_)))))
 refine Zo (Za (GL.nil ?_))
 exact Y1 I3 ⟨1, rfl, h⟩
 refine GC.skip (GC.seq (Zo (Zm (Zm (Zi (.bool (decide ((p_x : Int) < p_y))) (GL.nil (Yd h (fun u8 h => ?_) fun u8 h => ?_)))))))
 refine Zo (Za (GL.nil ?_))
 exact Y1 I3 ⟨(-1), rfl, h⟩
 refine GC.skip (GC.seq (Zo (Zm (Zm (Zi (.bool (decide ((p_x : Int) > p_y))) (GL.nil (Yd h (fun u9 h => ?_) fun u9 h => ?_)))))))
 refine Zo (Za (GL.nil ?_))
 exact Y1 I3 ⟨1, rfl, h⟩
 refine GC.skip (Zo (Za (GL.nil ?_)))
 exact Y1 I3 ⟨0, rfl, h⟩
def Qcc (C : Ctx) (p_x : Int) (K : Bool → Heap → Prop) (H : Heap) : Prop :=
 K ((p_x : Int) != p_x) H
theorem Qd2 (C p_x K H) (h : Qcc C p_x K H) : QaO C p_x K H := by
 refine Ye Tryz.func154 rfl Tryz.ntmps154 [(0, .int .i64 p_x)] (Zo (Za (GL.nil (Zo (Zm (Zm (Zi (.bool ((p_x : Int) != p_x)) (Za (GL.nil ?_)))))))))
 exact Y1 I3 ⟨((p_x : Int) != p_x), rfl, h⟩
def Qbv (C : Ctx) (p_s : Str) (p_prefix : Str) (K : Str → Heap → Prop) (H : Heap) : Prop :=
 QX C p_s p_prefix (fun r1 H2 =>
 K r1 H2) H
theorem Qda (C p_s p_prefix K H) (h : Qbv C p_s p_prefix K H) : QaU C p_s p_prefix K H := by
 refine Ye Tryz.func155 rfl Tryz.ntmps155 [(0, sv p_s), (1, sv p_prefix)] (Zo (Za (GL.nil (Zo (Zm (Zm (Zc h Qbb ?_)))))))
 rintro _ H2 ⟨r1, rfl, h⟩
 refine Za (GL.nil ?_)
 exact Y1 I3 ⟨r1, rfl, h⟩
def Qdo (C : Ctx) (p_s : Str) (p_cutset : Str) (K : Str → Heap → Prop) (H : Heap) : Prop :=
 ift ((p_s == ([] : Str)) || (p_cutset == ([] : Str)))
 (K p_s H)
 (jn (α := Bool) (fun b3 H10 =>
 ift b3
 (dr H10 fun Hs12 =>
 ixs p_cutset 0 fun c14 =>
 ixs p_cutset 0 fun c17 =>
 QcL C p_s (c14.toNat : Int) (fun r21 H22 =>
 Heap.le Hs12 H22 ∧
 Qc7 C r21 (c17.toNat : Int) (fun r24 H25 =>
 Heap.le Hs12 H25 ∧
 K r24 H25) H22) H10)
 (Qr C p_cutset (fun r26 r27 H28 =>
 nw ((List.replicate 256 (.bool false : Value))) (fun b29 H30 =>
 stC 256 (b29, 0) r26 (fun H31 =>
 ift r27
 (Q8 C p_s (some (b29, 0)) (fun r35 H36 =>
 Qaf C r35 (some (b29, 0)) (fun r37 H38 =>
 K r37 H38) H36) H31)
 (Qb5 C p_s p_cutset (fun r39 H40 =>
 Qcj C r39 p_cutset (fun r41 H42 =>
 K r41 H42) H40) H31)) H30) H28) H10))
 (fun J4 => ift (((List.length p_cutset : Int) : Int) == 1)
 (ixs p_cutset 0 fun c7 =>
 J4 (decide (((c7.toNat : Int) : Int) < 128)) H)
 (J4 false H)))
theorem QeW (C p_s p_cutset K H) (h : Qdo C p_s p_cutset K H) : Q5 C p_s p_cutset K H := by
 refine Ye Tryz.func156 rfl Tryz.ntmps156 [(0, sv p_s), (1, sv p_cutset)] (Zo (Za (GL.nil (GC.seq (Zo (Zm (Zv (OV.sbin (a := p_s) (b := ([] : Str)) (v := .bool (p_s == ([] : Str))) rfl rfl rfl) (Zm (GL.cut0 3 [(12, .bool ((p_s == ([] : Str)) || (p_cutset == ([] : Str)))), (0, sv p_s), (1, sv p_cutset)] ?_ ?_)))))))))
 rcases Zb (p_s == ([] : Str)) with u1 | u1
 refine Zk u1 (Zk u1 (Zt u1 ?_))
 exact GL.jump0 (fun _ _ h => h) () rfl ⟨(by rw [u1]; rfl), rfl, rfl, trivial⟩
 refine Zu u1 Ym (Zu u1 (OV.sbin (a := p_cutset) (b := ([] : Str)) (v := .bool (p_cutset == ([] : Str))) rfl rfl rfl) (Zn u1 ?_))
 exact GL.jump0 (fun _ _ h => h) () rfl ⟨(by rw [u1]; rfl), rfl, rfl, trivial⟩
 refine GL.nil (Yd h (fun u2 h => ?_) fun u2 h => ?_)
 refine Zo (Zm (Za (GL.nil ?_)))
 exact Y1 I3 ⟨p_s, rfl, h⟩
 refine GC.skip (GC.seq (Zo (Zm (Zr (Zi (.bool (((List.length p_cutset : Int) : Int) == 1)) (Zm ?_))))))
 obtain ⟨J4, h, hR5⟩ := h
 refine GL.cut (α := Bool) 4 J4 (fun b3 => [(21, .bool b3), (0, sv p_s), (1, sv p_cutset)]) ?_ ?_
 rcases h.em with ⟨u6, h⟩ | ⟨u6, h⟩
 refine Zu u6 Ym ?_
 obtain ⟨c7, ha8, hb9, h⟩ := h
 refine Zu u6 (OV.indexStr rfl rfl rfl ha8 hb9) (Zu u6 (OV.ibin (v := .bool (decide (((c7.toNat : Int) : Int) < 128))) rfl rfl rfl) (Zt u6 ?_))
 exact Yj I3 (decide (((c7.toNat : Int) : Int) < 128)) h
 refine Zk u6 (Zk u6 (Zk u6 (Zn u6 ?_)))
 exact Yj I3 false h
 intro b3 H10 h
 replace h := hR5 b3 H10 h
 refine GL.nil (Yd h (fun u11 h => ?_) fun u11 h => ?_)
 refine GC.seq ?_
 obtain ⟨Hs12, hle13, h⟩ := h
 refine GC.any (Hs := Hs12) (by kernel_rfl) hle13 (Zp 0 rfl Ym (Zp 1 rfl Ym ?_))
 obtain ⟨c14, ha15, hb16, h⟩ := h
 refine Zp 2 rfl (OV.indexStr rfl rfl rfl ha15 hb16) (Zp 4 rfl Ym ?_)
 obtain ⟨c17, ha18, hb19, h⟩ := h
 refine Zp 5 rfl (OV.indexStr rfl rfl rfl ha18 hb19) (GA.eff 3 rfl (by kernel_rfl) (Zc h QcA ?_))
 rintro _ H22 ⟨r21, rfl, h⟩
 obtain ⟨hle20, h⟩ := h
 refine GA.back hle20 (GA.eff 6 rfl (by kernel_rfl) (Zc h QcS ?_))
 rintro _ H25 ⟨r24, rfl, h⟩
 obtain ⟨hle23, h⟩ := h
 refine GA.back hle23 (Zp 7 rfl Ya (GA.done (by kernel_rfl) (GL.nil ?_)))
 exact Y1 I3 ⟨r24, rfl, h⟩
 refine GC.skip (GC.seq (Zo (Zm (Zc h QcR ?_))))
 rintro _ H28 ⟨r26, r27, rfl, h⟩
 refine Zm (Yv (.agg (List.toArray r26)) rfl rfl (Yv (.bool r27) rfl rfl (GL.alloc (cs := (List.replicate 256 (.bool false : Value))) h trivial rfl rfl rfl ?_)))
 intro b29 H30 h
 obtain ⟨hl32, h133, h⟩ := h
 refine GL.storeT (p := (b29, 0)) (vs := r26) h trivial rfl rfl h133 (by rw [hl32]; rfl) ?_
 intro H31 h
 refine Za (GL.nil (Zo (Zm (GL.nil (Yd h (fun u34 h => ?_) fun u34 h => ?_)))))
 refine Zo (Zm (Zc h Qco ?_))
 rintro _ H36 ⟨r35, rfl, h⟩
 refine Zc h Qcz ?_
 rintro _ H38 ⟨r37, rfl, h⟩
 refine Za (GL.nil ?_)
 exact Y1 I3 ⟨r37, rfl, h⟩
 refine GC.skip (Zo (Zm (Zm (Zc h QbX ?_))))
 rintro _ H40 ⟨r39, rfl, h⟩
 refine Zm (Zc h Qb6 ?_)
 rintro _ H42 ⟨r41, rfl, h⟩
 refine Za (GL.nil ?_)
 exact Y1 I3 ⟨r41, rfl, h⟩
def QaL (C : Ctx) (p_s : Str) (p_sep : Str) (K : Str → Str → Bool → Heap → Prop) (H : Heap) : Prop :=
 QP C p_s p_sep (fun r1 H2 =>
 ift (decide ((r1 : Int) ≥ 0))
 (slS p_s 0 r1 fun t4 =>
 slS p_s (w .i64 (r1 + (List.length p_sep : Int))) (List.length p_s : Int) fun t10 =>
 K t4 t10 true H2)
 (K p_s [] false H2)) H
theorem QbR (C p_s p_sep K H) (h : QaL C p_s p_sep K H) : QaR C p_s p_sep K H := by
 refine Ye Tryz.func157 rfl Tryz.ntmps157 [(0, sv p_s), (1, sv p_sep)] (Zo (Za (Za (Za (GL.nil (GC.seq (Zo (Zm (Zm (Zc h Qbz ?_))))))))))
 rintro _ H2 ⟨r1, rfl, h⟩
 refine Za (GL.nil (Zo (Zm (Zi (.bool (decide ((r1 : Int) ≥ 0))) (GL.nil (Yd h (fun u3 h => ?_) fun u3 h => ?_))))))
 refine GC.seq (GC.draw (by kernel_rfl) (by kernel_rfl) (GQ.val trivial rfl (OV.move (v := sv p_s) rfl) (GQ.val trivial rfl (OV.move (v := .int .i64 r1) rfl) ?_)))
 obtain ⟨h5, h6, h7, t4, h8, h⟩ := h
 refine GQ.val trivial rfl (OV.sliceStr (s := p_s) h5 h6 h7 h8 rfl rfl rfl rfl rfl rfl) (GQ.val trivial rfl (OV.move (v := sv p_s) rfl) (GQ.val trivial rfl (OV.move (v := .int .i64 r1) rfl) (GQ.val trivial rfl (OV.move (v := sv p_sep) rfl) (GQ.val trivial rfl (OV.lenStr (s := p_sep) rfl rfl) (GQ.val trivial rfl (OV.ibin (v := .int .i64 (w .i64 (r1 + (List.length p_sep : Int)))) rfl rfl rfl) ?_)))))
 obtain ⟨h11, h12, h13, t10, h14, h⟩ := h
 refine GQ.val trivial rfl (OV.sliceStr (s := p_s) h11 h12 h13 h14 rfl rfl rfl rfl rfl rfl) (GQ.val trivial rfl (OV.assign (v := sv t4) rfl) (GQ.val trivial rfl (OV.assign (v := sv t10) rfl) (GQ.val trivial rfl (OV.assign (v := .bool true) rfl) (GQ.nil (GL.nil ?_)))))
 exact Y3 I3 ⟨t4, t10, true, rfl, h⟩
 refine GC.skip (Zo (Zm (Za (Za (Za (GL.nil ?_))))))
 exact Y3 I3 ⟨p_s, [], false, rfl, h⟩
def Q3 (C : Ctx) (p_s : Str) (p_prefix : Str) (K : Bool → Heap → Prop) (H : Heap) : Prop :=
 jn (α := Bool) (fun b1 H11 =>
 K b1 H11)
 (fun J2 => ift (decide (((List.length p_s : Int) : Int) ≥ (List.length p_prefix : Int)))
 (slS p_s 0 (List.length p_prefix : Int) fun t5 =>
 J2 (t5 == p_prefix) H)
 (J2 false H))
theorem Qbc (C p_s p_prefix K H) (h : Q3 C p_s p_prefix K H) : Qs C p_s p_prefix K H := by
 refine Ye Tryz.func166 rfl Tryz.ntmps166 [(0, sv p_s), (1, sv p_prefix)] (Zo (Za (GL.nil (Zo (Zm (Zr (Zm (Zr (Zi (.bool (decide (((List.length p_s : Int) : Int) ≥ (List.length p_prefix : Int)))) (Zm ?_))))))))))
 obtain ⟨J2, h, hR3⟩ := h
 refine GL.cut (α := Bool) 7 J2 (fun b1 => [(17, .bool b1)]) ?_ ?_
 rcases h.em with ⟨u4, h⟩ | ⟨u4, h⟩
 refine Zu u4 Ym (Zu u4 Ym (Zu u4 (OV.lenStr rfl rfl) ?_))
 obtain ⟨h6, h7, h8, t5, h9, h⟩ := h
 refine Zu u4 (OV.sliceStr (s := p_s) h6 h7 h8 h9 rfl rfl rfl rfl rfl rfl) (Zu u4 Ym (Zu u4 (OV.sbin (a := t5) (b := p_prefix) (v := .bool (t5 == p_prefix)) rfl rfl rfl) (Zt u4 ?_)))
 exact Yj I3 (t5 == p_prefix) h
 refine Zk u4 (Zk u4 (Zk u4 (Zk u4 (Zk u4 (Zk u4 (Zn u4 ?_))))))
 exact Yj I3 false h
 intro b1 H11 h
 replace h := hR3 b1 H11 h
 refine Za (GL.nil ?_)
 exact Y1 I3 ⟨b1, rfl, h⟩
def Qc4 (C : Ctx) (p_x : Int) (K : Bool → Heap → Prop) (H : Heap) : Prop :=
 K ((p_x : Int) != p_x) H
theorem QeP (C p_x K H) (h : Qc4 C p_x K H) : Qbe C p_x K H := by
 refine Ye Tryz.func167 rfl Tryz.ntmps167 [(0, .int .i64 p_x)] (Zo (Za (GL.nil (Zo (Zm (Zm (Zi (.bool ((p_x : Int) != p_x)) (Za (GL.nil ?_)))))))))
 exact Y1 I3 ⟨((p_x : Int) != p_x), rfl, h⟩
def QU (C : Ctx) (p_s : Str) (p_prefix : Str) (K : Str → Heap → Prop) (H : Heap) : Prop :=
 Qs C p_s p_prefix (fun r1 H2 =>
 ift r1
 (slS p_s (List.length p_prefix : Int) (List.length p_s : Int) fun t4 =>
 K t4 H2)
 (K p_s H2)) H
theorem Qba (C p_s p_prefix K H) (h : QU C p_s p_prefix K H) : QX C p_s p_prefix K H := by
 refine Ye Tryz.func168 rfl Tryz.ntmps168 [(0, sv p_s), (1, sv p_prefix)] (Zo (Za (GL.nil (GC.seq (Zo (Zm (Zm (Zc h Q1 ?_))))))))
 rintro _ H2 ⟨r1, rfl, h⟩
 refine GL.nil (Yd h (fun u3 h => ?_) fun u3 h => ?_)
 refine Zo (Zm (Zm (Zr ?_)))
 obtain ⟨h5, h6, h7, t4, h8, h⟩ := h
 refine Zv (OV.sliceStr (s := p_s) h5 h6 h7 h8 rfl rfl rfl rfl rfl rfl) (Za (GL.nil ?_))
 exact Y1 I3 ⟨t4, rfl, h⟩
 refine GC.skip (Zo (Zm (Za (GL.nil ?_))))
 exact Y1 I3 ⟨p_s, rfl, h⟩
def Qbh (C : Ctx) (p_chars : Str) (K : List Value → Bool → Heap → Prop) (H : Heap) : Prop :=
 nw ((List.replicate 256 (.bool false : Value))) (fun b1 H2 =>
 lp (α := Int) 0 H2 (fun x3 J4 H5 =>
 ift (decide ((x3 : Int) < (List.length p_chars : Int)))
 (ixs p_chars x3 fun c7 =>
 ift (decide (((c7.toNat : Int) : Int) ≥ 128))
 (ldC H5 256 (b1, 0) fun x11 =>
 stC 256 (b1, 0) x11 (fun H14 =>
 ldC H14 256 (b1, 0) fun x17 =>
 K x17 false H14) H5)
 (ixr (b1, 0) 256 (c7.toNat : Int) <|
 st ((b1, 0).1, (b1, 0).2 + ((c7.toNat : Int) : Int).toNat * 1) (.bool true) (fun H22 =>
 J4 (w .i64 (x3 + 1)) H22) H5))
 (ldC H5 256 (b1, 0) fun x23 =>
 stC 256 (b1, 0) x23 (fun H26 =>
 ldC H26 256 (b1, 0) fun x29 =>
 K x29 true H26) H5))) H
theorem QcH (C p_chars K H) (h : Qbh C p_chars K H) : Qr C p_chars K H := by
 refine Ye Tryz.func171 rfl Tryz.ntmps171 [(0, sv p_chars)] (Zo (GL.alloc (cs := (List.replicate 256 (.bool false : Value))) h trivial rfl rfl rfl ?_))
 intro b1 H2 h
 refine Za (GL.nil (GC.seq (Zo (Za (GL.nil (GC.block (Yp h (fun x3 => [(4, .int .i64 x3), (0, sv p_chars), (2, pv (some (b1, 0)))]) ?_)))))))
 intro x3 H5 J4 h
 refine GC.seq (Zo (Zm (Zm (Zr (Zi (.bool (decide ((x3 : Int) < (List.length p_chars : Int)))) (GL.nil (Yd h (fun u6 h => ?_) fun u6 h => ?_)))))))
 refine GC.skip (GC.seq (GC.block (Zo (Zm (Zm (Ys h fun c7 h => ?_))))))
 refine Za (GL.nil (GC.seq (Zo (Zm (Zi (.bool (decide (((c7.toNat : Int) : Int) ≥ 128))) (GL.nil (Yd h (fun u10 h => ?_) fun u10 h => ?_)))))))
 refine Zo ?_
 obtain ⟨x11, hl13, v12, h⟩ := h
 refine Zv (OV.loadT (p := (b1, 0)) (cs := x11) rfl rfl (by rw [hl13]; rfl) v12) ?_
 obtain ⟨hl15, h116, h⟩ := h
 refine GL.storeT (p := (b1, 0)) (vs := x11) h trivial rfl rfl h116 (by rw [hl15]; rfl) ?_
 intro H14 h
 refine Za (GL.nil ?_)
 obtain ⟨x17, hl19, v18, h⟩ := h
 exact GC.ret (fun _ _ hf hs => Qgx rfl (RV.cellT (p := (b1, 0)) (cs := x17) rfl rfl (by rw [hl19]; rfl) v18) (RV.tmp rfl) hf hs ⟨x17, false, rfl, h⟩)
 refine GC.skip (GC.region (Zm ?_))
 obtain ⟨ha20, hb21, h⟩ := h
 refine Zv (OV.indexAddrA (p := (b1, 0)) rfl rfl rfl rfl ha20 hb21) (GL.store (p := ((b1, 0).1, (b1, 0).2 + ((c7.toNat : Int) : Int).toNat * 1)) (v := .bool true) h trivial rfl rfl rfl rfl ?_)
 intro H22 h
 refine GL.nil_to (fun _ _ h => h) (GC.region (Zm (Zi (.int .i64 (w .i64 (x3 + 1))) (Za ?_))))
 exact Yj I3 (w .i64 (x3 + 1)) h
 refine GC.exit_to (fun _ _ h => h) (Zo ?_)
 obtain ⟨x23, hl25, v24, h⟩ := h
 refine Zv (OV.loadT (p := (b1, 0)) (cs := x23) rfl rfl (by rw [hl25]; rfl) v24) ?_
 obtain ⟨hl27, h128, h⟩ := h
 refine GL.storeT (p := (b1, 0)) (vs := x23) h trivial rfl rfl h128 (by rw [hl27]; rfl) ?_
 intro H26 h
 refine Za (GL.nil ?_)
 obtain ⟨x29, hl31, v30, h⟩ := h
 exact GC.ret (fun _ _ hf hs => Qgx rfl (RV.cellT (p := (b1, 0)) (cs := x29) rfl rfl (by rw [hl31]; rfl) v30) (RV.tmp rfl) hf hs ⟨x29, true, rfl, h⟩)
def Qa9 (C : Ctx) (p_s : Str) (p_as : Option (Nat × Nat)) (K : Str → Heap → Prop) (H : Heap) : Prop :=
 jn (α := Str) (fun x2 H3 =>
 K x2 H3)
 (fun J1 => lp (α := Str) p_s H (fun x5 J6 H7 =>
 ift (decide (((List.length x5 : Int) : Int) > 0))
 (ixs x5 0 fun c9 =>
 QD C p_as (c9.toNat : Int) (fun r12 H13 =>
 ift (!r12)
 (J1 x5 H13)
 (slS x5 1 (List.length x5 : Int) fun t15 =>
 J6 t15 H13)) H7)
 (J1 x5 H7)))
theorem Qcs (C p_s p_as K H) (h : Qa9 C p_s p_as K H) : Qaf C p_s p_as K H := by
 refine Ye Tryz.func172 rfl Tryz.ntmps172 [(0, sv p_s), (1, pv p_as)] (Zo (Za (GL.nil ?_)))
 obtain ⟨J1, h, hR4⟩ := h
 refine GC.join (α := Str) J1 (fun x2 => [(0, sv x2)]) ?_ ?_
 refine GC.block (Yp h (fun x5 => [(0, sv x5), (1, pv p_as)]) ?_)
 intro x5 H7 J6 h
 refine GC.seq (Zo (Zm (Zr (Zi (.bool (decide (((List.length x5 : Int) : Int) > 0))) (GL.nil (Yd h (fun u8 h => ?_) fun u8 h => ?_))))))
 refine GC.skip (GC.block (GC.seq (Zo (Zm (Zm (Ys h fun c9 h => ?_))))))
 refine Zc h Qaw ?_
 rintro _ H13 ⟨r12, rfl, h⟩
 refine Zv (OV.not rfl) (GL.nil (Yd h (fun u14 h => ?_) fun u14 h => ?_))
 exact GC.exit_jump (fun _ _ h => h) x5 h ⟨rfl, trivial⟩
 refine GC.skip (GC.region (Zm ?_))
 obtain ⟨h16, h17, h18, t15, h19, h⟩ := h
 refine Zv (OV.sliceStr (s := x5) h16 h17 h18 h19 rfl rfl rfl rfl rfl rfl) (Za ?_)
 exact Yj I3 t15 h
 exact GC.exit_jump (fun _ _ h => h) x5 h ⟨rfl, trivial⟩
 intro x2 H3 h
 replace h := hR4 x2 H3 h
 refine Zo (Zm (Za (GL.nil ?_)))
 exact Y1 I3 ⟨x2, rfl, h⟩
def QaY (C : Ctx) (p_s : Str) (p_as : Option (Nat × Nat)) (K : Str → Heap → Prop) (H : Heap) : Prop :=
 jn (α := Str) (fun x2 H3 =>
 K x2 H3)
 (fun J1 => lp (α := Str) p_s H (fun x5 J6 H7 =>
 ift (decide (((List.length x5 : Int) : Int) > 0))
 (ixs x5 (w .i64 ((List.length x5 : Int) - 1)) fun c9 =>
 QD C p_as (c9.toNat : Int) (fun r12 H13 =>
 ift (!r12)
 (J1 x5 H13)
 (slS x5 0 (w .i64 ((List.length x5 : Int) - 1)) fun t15 =>
 J6 t15 H13)) H7)
 (J1 x5 H7)))
theorem Qci (C p_s p_as K H) (h : QaY C p_s p_as K H) : Q8 C p_s p_as K H := by
 refine Ye Tryz.func173 rfl Tryz.ntmps173 [(0, sv p_s), (1, pv p_as)] (Zo (Za (GL.nil ?_)))
 obtain ⟨J1, h, hR4⟩ := h
 refine GC.join (α := Str) J1 (fun x2 => [(0, sv x2)]) ?_ ?_
 refine GC.block (Yp h (fun x5 => [(0, sv x5), (1, pv p_as)]) ?_)
 intro x5 H7 J6 h
 refine GC.seq (Zo (Zm (Zr (Zi (.bool (decide (((List.length x5 : Int) : Int) > 0))) (GL.nil (Yd h (fun u8 h => ?_) fun u8 h => ?_))))))
 refine GC.skip (GC.block (GC.seq (Zo (Zm (Zm (Zm (Zr (Zi (.int .i64 (w .i64 ((List.length x5 : Int) - 1))) (Ys h fun c9 h => ?_)))))))))
 refine Zc h Qaw ?_
 rintro _ H13 ⟨r12, rfl, h⟩
 refine Zv (OV.not rfl) (GL.nil (Yd h (fun u14 h => ?_) fun u14 h => ?_))
 exact GC.exit_jump (fun _ _ h => h) x5 h ⟨rfl, trivial⟩
 refine GC.skip (GC.region (Zm (Zm (Zr (Zi (.int .i64 (w .i64 ((List.length x5 : Int) - 1))) ?_)))))
 obtain ⟨h16, h17, h18, t15, h19, h⟩ := h
 refine Zv (OV.sliceStr (s := x5) h16 h17 h18 h19 rfl rfl rfl rfl rfl rfl) (Za ?_)
 exact Yj I3 t15 h
 exact GC.exit_jump (fun _ _ h => h) x5 h ⟨rfl, trivial⟩
 intro x2 H3 h
 replace h := hR4 x2 H3 h
 refine Zo (Zm (Za (GL.nil ?_)))
 exact Y1 I3 ⟨x2, rfl, h⟩
def Qap (C : Ctx) (p_s : Str) (p_substr : Str) (K : Int → Heap → Prop) (H : Heap) : Prop :=
 ift ((((List.length p_substr : Int) : Int) == 0) || (p_substr == p_s))
 (K 0 H)
 (ift (((List.length p_substr : Int) : Int) == 1)
 (ixs p_substr 0 fun c4 =>
 QI C p_s (c4.toNat : Int) (fun r7 H8 =>
 K r7 H8) H)
 (ift (decide (((List.length p_substr : Int) : Int) ≥ (List.length p_s : Int)))
 (K (-1) H)
 (ldI H .i64 (1, 0) fun x10 =>
 ift ((decide (((List.length p_substr : Int) : Int) ≤ x10)) && (decide (((List.length p_s : Int) : Int) ≤ 64)))
 (False)
 (ixs p_substr 0 fun c14 =>
 ixs p_substr 1 fun c17 =>
 lp (α := Int × Int) (0, 0) H (fun x20 J21 H22 =>
 ift (decide ((x20.1 : Int) < (w .i64 ((w .i64 ((List.length p_s : Int) - (List.length p_substr : Int))) + 1))))
 (jn (α := Int) (fun x25 H26 =>
 ixs p_s (w .i64 (x25 + 1)) fun c41 =>
 jn (α := Bool) (fun b44 H54 =>
 ift b44
 (K x25 H54)
 (ldI H54 .i64 (1, 0) fun x56 =>
 jn (α := Bool) (fun b58 H64 =>
 ift b58
 (False)
 (ldI H64 .i64 (1, 0) fun x72 =>
 ift (((decide (((List.length p_substr : Int) : Int) > x72)) && (decide (((w .i64 (x20.2 + 1)) : Int) ≥ (w .i64 (4 + (sShr .i64 (w .i64 (x25 + 1)) 4)))))) && (decide (((w .i64 (x25 + 1)) : Int) < (w .i64 ((w .i64 ((List.length p_s : Int) - (List.length p_substr : Int))) + 1)))))
 (slS p_s (w .i64 (x25 + 1)) (List.length p_s : Int) fun t77 =>
 QaB C t77 p_substr (fun r83 H84 =>
 ift (decide ((r83 : Int) < 0))
 (K (-1) H84)
 (K (w .i64 ((w .i64 (x25 + 1)) + r83)) H84)) H64)
 (J21 ((w .i64 (x25 + 1)), (w .i64 (x20.2 + 1))) H64)))
 (fun J59 => ift (decide (((List.length p_substr : Int) : Int) ≤ x56))
 (Qb4 C (w .i64 (x25 + 1)) (fun r62 H63 =>
 J59 (decide (((w .i64 (x20.2 + 1)) : Int) > r62)) H63) H54)
 (J59 false H54))))
 (fun J45 => ift (((c41.toNat : Int) : Int) == (c17.toNat : Int))
 (slS p_s x25 (w .i64 (x25 + (List.length p_substr : Int))) fun t48 =>
 J45 (t48 == p_substr) H26)
 (J45 false H26)))
 (fun J24 => ixs p_s x20.1 fun c28 =>
 ift (((c28.toNat : Int) : Int) != (c14.toNat : Int))
 (slS p_s (w .i64 (x20.1 + 1)) (w .i64 ((w .i64 ((List.length p_s : Int) - (List.length p_substr : Int))) + 1)) fun t32 =>
 QI C t32 (c14.toNat : Int) (fun r38 H39 =>
 ift (decide ((r38 : Int) < 0))
 (K (-1) H39)
 (J24 (w .i64 (x20.1 + (w .i64 (r38 + 1)))) H39)) H22)
 (J24 x20.1 H22)))
 (K (-1) H22))))))
theorem Qbw (C p_s p_substr K H) (h : Qap C p_s p_substr K H) : QP C p_s p_substr K H := by
 refine Ye Tryz.func176 rfl Tryz.ntmps176 [(0, sv p_s), (1, sv p_substr)] (Zo (Za (GL.nil (Zo (Zm (Zr (Za (GL.nil (GC.seq (GC.block (Zo (Zm (Zi (.bool (((List.length p_substr : Int) : Int) == 0)) (Zm (GL.cut0 4 [(23, .bool ((((List.length p_substr : Int) : Int) == 0) || (p_substr == p_s))), (0, sv p_s), (1, sv p_substr), (5, .int .i64 (List.length p_substr : Int))] ?_ ?_)))))))))))))))
 rcases Zb (((List.length p_substr : Int) : Int) == 0) with hc1 | hc1
 refine Zk hc1 (Zk hc1 (Zk hc1 (Zt hc1 ?_)))
 exact GL.jump0 (fun _ _ h => h) () rfl ⟨(by rw [hc1]; rfl), rfl, rfl, rfl, trivial⟩
 refine Zu hc1 Ym (Zu hc1 Ym (Zu hc1 (OV.sbin (a := p_substr) (b := p_s) (v := .bool (p_substr == p_s)) rfl rfl rfl) (Zn hc1 ?_)))
 exact GL.jump0 (fun _ _ h => h) () rfl ⟨(by rw [hc1]; rfl), rfl, rfl, rfl, trivial⟩
 refine Za (GL.nil (Yd h (fun hc2 h => ?_) fun hc2 h => ?_))
 refine Zo (Za (GL.nil ?_))
 exact Y1 I3 ⟨0, rfl, h⟩
 refine Zo (Zm (Zi (.bool (((List.length p_substr : Int) : Int) == 1)) (Za (GL.nil (Yd h (fun hc3 h => ?_) fun hc3 h => ?_)))))
 refine Zo (Zm (Zm (Ys h fun c4 h => ?_)))
 refine Zc h Q2 ?_
 rintro _ H8 ⟨r7, rfl, h⟩
 refine Za (GL.nil ?_)
 exact Y1 I3 ⟨r7, rfl, h⟩
 refine Zo (Zm (Zm (Zr (Zi (.bool (decide (((List.length p_substr : Int) : Int) ≥ (List.length p_s : Int)))) (Za (GL.nil (Yd h (fun hc9 h => ?_) fun hc9 h => ?_)))))))
 refine Zo (Za (GL.nil ?_))
 exact Y1 I3 ⟨(-1), rfl, h⟩
 refine Zo (Zm (Yl h fun x10 h => ?_))
 refine Zi (.bool (decide (((List.length p_substr : Int) : Int) ≤ x10))) (Zm (GL.cut0 4 [(44, .bool ((decide (((List.length p_substr : Int) : Int) ≤ x10)) && (decide (((List.length p_s : Int) : Int) ≤ 64)))), (0, sv p_s), (1, sv p_substr), (5, .int .i64 (List.length p_substr : Int))] ?_ ?_))
 rcases Zb (decide (((List.length p_substr : Int) : Int) ≤ x10)) with hc12 | hc12
 refine Zu hc12 Ym (Zu hc12 (OV.lenStr rfl rfl) (Zu hc12 (OV.ibin (v := .bool (decide (((List.length p_s : Int) : Int) ≤ 64))) rfl rfl rfl) (Zt hc12 ?_)))
 exact GL.jump0 (fun _ _ h => h) () rfl ⟨(by rw [hc12]; rfl), rfl, rfl, rfl, trivial⟩
 refine Zk hc12 (Zk hc12 (Zk hc12 (Zn hc12 ?_)))
 exact GL.jump0 (fun _ _ h => h) () rfl ⟨(by rw [hc12]; rfl), rfl, rfl, rfl, trivial⟩
 refine Za (GL.nil (Yd h (fun hc13 h => ?_) fun hc13 h => ?_))
 refine GC.seq ?_
 exact GC.never h
 refine GC.skip_to (fun _ _ h => h) (Zo (Zm ?_))
 refine Ys h fun c14 h => ?_
 refine Za (GL.nil (Zo (Zm (Ys h fun c17 h => ?_))))
 refine Za (GL.nil (Zo (Za (GL.nil (Zo (Zm (Zr (Zm (Zi (.int .i64 (w .i64 ((List.length p_s : Int) - (List.length p_substr : Int)))) (Zi (.int .i64 (w .i64 ((w .i64 ((List.length p_s : Int) - (List.length p_substr : Int))) + 1))) (Za (GL.nil (Zo (Za (GL.nil (GC.seq (GC.block (Yp h (fun x20 => [(8, .int .i64 x20.1), (10, .int .i64 x20.2), (0, sv p_s), (1, sv p_substr), (5, .int .i64 (List.length p_substr : Int)), (6, .int .u8 (c14.toNat : Int)), (7, .int .u8 (c17.toNat : Int)), (9, .int .i64 (w .i64 ((w .i64 ((List.length p_s : Int) - (List.length p_substr : Int))) + 1)))]) ?_))))))))))))))))))
 intro x20 H22 J21 h
 refine GC.seq (Zo (Zm (Zm (Zi (.bool (decide ((x20.1 : Int) < (w .i64 ((w .i64 ((List.length p_s : Int) - (List.length p_substr : Int))) + 1))))) (GL.nil (Yd h (fun hc23 h => ?_) fun hc23 h => ?_))))))
 refine GC.skip (GC.block ?_)
 obtain ⟨J24, h, hR27⟩ := h
 refine GC.join (α := Int) J24 (fun x25 => [(8, .int .i64 x25), (0, sv p_s), (1, sv p_substr), (5, .int .i64 (List.length p_substr : Int)), (6, .int .u8 (c14.toNat : Int)), (7, .int .u8 (c17.toNat : Int)), (9, .int .i64 (w .i64 ((w .i64 ((List.length p_s : Int) - (List.length p_substr : Int))) + 1))), (10, .int .i64 x20.2)]) ?_ ?_
 refine Zo (Zm (Zm (Ys h fun c28 h => ?_)))
 refine Zm (Zi (.bool (((c28.toNat : Int) : Int) != (c14.toNat : Int))) (GL.nil (Yd h (fun hc31 h => ?_) fun hc31 h => ?_)))
 refine Zo (Zm (Zm (Zi (.int .i64 (w .i64 (x20.1 + 1))) (Zm ?_))))
 obtain ⟨h33, h34, h35, t32, h36, h⟩ := h
 refine Zv (OV.sliceStr (s := p_s) h33 h34 h35 h36 rfl rfl rfl rfl rfl rfl) (Zm (Zc h Q2 ?_))
 rintro _ H39 ⟨r38, rfl, h⟩
 refine Za (GL.nil (GC.seq (Zo (Zm (Zi (.bool (decide ((r38 : Int) < 0))) (GL.nil (Yd h (fun hc40 h => ?_) fun hc40 h => ?_)))))))
 refine Zo (Za (GL.nil ?_))
 exact Y1 I3 ⟨(-1), rfl, h⟩
 refine GC.skip (GC.region (Zm (Zm (Zi (.int .i64 (w .i64 (r38 + 1))) (Zi (.int .i64 (w .i64 (x20.1 + (w .i64 (r38 + 1))))) (Za ?_))))))
 exact Yj I3 (w .i64 (x20.1 + (w .i64 (r38 + 1)))) h
 exact Yk I3 x20.1 h
 intro x25 H26 h
 replace h := hR27 x25 H26 h
 refine GC.seq (Zo (Zm (Zm (Zi (.int .i64 (w .i64 (x25 + 1))) (Ys h fun c41 h => ?_)))))
 refine Zm (Zi (.bool (((c41.toNat : Int) : Int) == (c17.toNat : Int))) (Zm ?_))
 obtain ⟨J45, h, hR46⟩ := h
 refine GL.cut (α := Bool) 9 J45 (fun b44 => [(93, .bool b44), (0, sv p_s), (1, sv p_substr), (5, .int .i64 (List.length p_substr : Int)), (6, .int .u8 (c14.toNat : Int)), (7, .int .u8 (c17.toNat : Int)), (8, .int .i64 x25), (9, .int .i64 (w .i64 ((w .i64 ((List.length p_s : Int) - (List.length p_substr : Int))) + 1))), (10, .int .i64 x20.2)]) ?_ ?_
 rcases h.em with ⟨hc47, h⟩ | ⟨hc47, h⟩
 refine Zu hc47 Ym (Zu hc47 Ym (Zu hc47 Ym (Zu hc47 Ym (Zu hc47 (OV.ibin (v := .int .i64 (w .i64 (x25 + (List.length p_substr : Int)))) rfl rfl rfl) ?_))))
 obtain ⟨h49, h50, h51, t48, h52, h⟩ := h
 refine Zu hc47 (OV.sliceStr (s := p_s) h49 h50 h51 h52 rfl rfl rfl rfl rfl rfl) (Zu hc47 Ym (Zu hc47 (OV.sbin (a := t48) (b := p_substr) (v := .bool (t48 == p_substr)) rfl rfl rfl) (Zt hc47 ?_)))
 exact Yj I3 (t48 == p_substr) h
 refine Zk hc47 (Zk hc47 (Zk hc47 (Zk hc47 (Zk hc47 (Zk hc47 (Zk hc47 (Zk hc47 (Zn hc47 ?_))))))))
 exact Yj I3 false h
 intro b44 H54 h
 replace h := hR46 b44 H54 h
 refine GL.nil (Yd h (fun hc55 h => ?_) fun hc55 h => ?_)
 refine Zo (Zm (Za (GL.nil ?_)))
 exact Y1 I3 ⟨x25, rfl, h⟩
 refine GC.skip (Zo (Zm (Zi (.int .i64 (w .i64 (x25 + 1))) (Za (GL.nil (Zo (Zm (Zi (.int .i64 (w .i64 (x20.2 + 1))) (Za (GL.nil (Zo (Zm (Yl h fun x56 h => ?_)))))))))))))
 refine Zi (.bool (decide (((List.length p_substr : Int) : Int) ≤ x56))) (Zm ?_)
 obtain ⟨J59, h, hR60⟩ := h
 refine GL.cut (α := Bool) 5 J59 (fun b58 => [(107, .bool b58), (0, sv p_s), (1, sv p_substr), (5, .int .i64 (List.length p_substr : Int)), (6, .int .u8 (c14.toNat : Int)), (7, .int .u8 (c17.toNat : Int)), (8, .int .i64 (w .i64 (x25 + 1))), (9, .int .i64 (w .i64 ((w .i64 ((List.length p_s : Int) - (List.length p_substr : Int))) + 1))), (10, .int .i64 (w .i64 (x20.2 + 1)))]) ?_ ?_
 rcases h.em with ⟨hc61, h⟩ | ⟨hc61, h⟩
 refine Zu hc61 Ym (Zu hc61 Ym (GL.call h (Yt hc61) rfl QbV (vs := [.int .i64 (w .i64 (x25 + 1))]) rfl ?_))
 rintro _ H63 ⟨r62, rfl, h⟩
 refine Zu hc61 (OV.ibin (v := .bool (decide (((w .i64 (x20.2 + 1)) : Int) > r62))) rfl rfl rfl) (Zt hc61 ?_)
 exact Yj I3 (decide (((w .i64 (x20.2 + 1)) : Int) > r62)) h
 refine Zk hc61 (Zk hc61 (Zk hc61 (Zk hc61 (Zn hc61 ?_))))
 exact Yj I3 false h
 intro b58 H64 h
 replace h := hR60 b58 H64 h
 refine GL.nil (Yd h (fun hc65 h => ?_) fun hc65 h => ?_)
 refine GC.seq ?_
 exact GC.never h
 refine Zo (Zm (Yl h fun x72 h => ?_))
 refine Zi (.bool (decide (((List.length p_substr : Int) : Int) > x72))) (Zm (GL.cut0 6 [(127, .bool ((decide (((List.length p_substr : Int) : Int) > x72)) && (decide (((w .i64 (x20.2 + 1)) : Int) ≥ (w .i64 (4 + (sShr .i64 (w .i64 (x25 + 1)) 4))))))), (0, sv p_s), (1, sv p_substr), (5, .int .i64 (List.length p_substr : Int)), (6, .int .u8 (c14.toNat : Int)), (7, .int .u8 (c17.toNat : Int)), (8, .int .i64 (w .i64 (x25 + 1))), (9, .int .i64 (w .i64 ((w .i64 ((List.length p_s : Int) - (List.length p_substr : Int))) + 1))), (10, .int .i64 (w .i64 (x20.2 + 1)))] ?_ ?_))
 rcases Zb (decide (((List.length p_substr : Int) : Int) > x72)) with hc74 | hc74
 refine Zu hc74 Ym (Zu hc74 Ym (Zu hc74 (OV.shr rfl rfl (by decide)) (Zu hc74 (OV.ibin (v := .int .i64 (w .i64 (4 + (sShr .i64 (w .i64 (x25 + 1)) 4)))) rfl rfl rfl) (Zu hc74 (OV.ibin (v := .bool (decide (((w .i64 (x20.2 + 1)) : Int) ≥ (w .i64 (4 + (sShr .i64 (w .i64 (x25 + 1)) 4)))))) rfl rfl rfl) (Zt hc74 ?_)))))
 exact GL.jump0 (fun _ _ h => h) () rfl ⟨(by rw [hc74]; rfl), rfl, rfl, rfl, rfl, rfl, rfl, rfl, rfl, trivial⟩
 refine Zk hc74 (Zk hc74 (Zk hc74 (Zk hc74 (Zk hc74 (Zn hc74 ?_)))))
 exact GL.jump0 (fun _ _ h => h) () rfl ⟨(by rw [hc74]; rfl), rfl, rfl, rfl, rfl, rfl, rfl, rfl, rfl, trivial⟩
 refine Zm (GL.cut0 4 [(132, .bool (((decide (((List.length p_substr : Int) : Int) > x72)) && (decide (((w .i64 (x20.2 + 1)) : Int) ≥ (w .i64 (4 + (sShr .i64 (w .i64 (x25 + 1)) 4)))))) && (decide (((w .i64 (x25 + 1)) : Int) < (w .i64 ((w .i64 ((List.length p_s : Int) - (List.length p_substr : Int))) + 1)))))), (0, sv p_s), (1, sv p_substr), (5, .int .i64 (List.length p_substr : Int)), (6, .int .u8 (c14.toNat : Int)), (7, .int .u8 (c17.toNat : Int)), (8, .int .i64 (w .i64 (x25 + 1))), (9, .int .i64 (w .i64 ((w .i64 ((List.length p_s : Int) - (List.length p_substr : Int))) + 1))), (10, .int .i64 (w .i64 (x20.2 + 1)))] ?_ ?_)
 rcases Zb ((decide (((List.length p_substr : Int) : Int) > x72)) && (decide (((w .i64 (x20.2 + 1)) : Int) ≥ (w .i64 (4 + (sShr .i64 (w .i64 (x25 + 1)) 4)))))) with hc75 | hc75
 refine Zu hc75 Ym (Zu hc75 Ym (Zu hc75 (OV.ibin (v := .bool (decide (((w .i64 (x25 + 1)) : Int) < (w .i64 ((w .i64 ((List.length p_s : Int) - (List.length p_substr : Int))) + 1))))) rfl rfl rfl) (Zt hc75 ?_)))
 exact GL.jump0 (fun _ _ h => h) () rfl ⟨(by rw [hc75]; rfl), rfl, rfl, rfl, rfl, rfl, rfl, rfl, rfl, trivial⟩
 refine Zk hc75 (Zk hc75 (Zk hc75 (Zn hc75 ?_)))
 exact GL.jump0 (fun _ _ h => h) () rfl ⟨(by rw [hc75]; rfl), rfl, rfl, rfl, rfl, rfl, rfl, rfl, rfl, trivial⟩
 refine GL.nil (Yd h (fun hc76 h => ?_) fun hc76 h => ?_)
 refine Zo (Zm (Zm ?_))
 obtain ⟨h78, h79, h80, t77, h81, h⟩ := h
 refine Zv (OV.sliceStr (s := p_s) h78 h79 h80 h81 rfl rfl rfl rfl rfl rfl) (Zm (Zc h Qau ?_))
 rintro _ H84 ⟨r83, rfl, h⟩
 refine Za (GL.nil (GC.seq (Zo (Zm (Zi (.bool (decide ((r83 : Int) < 0))) (GL.nil (Yd h (fun hc85 h => ?_) fun hc85 h => ?_)))))))
 refine Zo (Za (GL.nil ?_))
 exact Y1 I3 ⟨(-1), rfl, h⟩
 refine GC.skip (Zo (Zm (Zm (Zi (.int .i64 (w .i64 ((w .i64 (x25 + 1)) + r83))) (Za (GL.nil ?_))))))
 exact Y1 I3 ⟨(w .i64 ((w .i64 (x25 + 1)) + r83)), rfl, h⟩
 exact Yk I3 ((w .i64 (x25 + 1)), (w .i64 (x20.2 + 1))) h
 refine GC.exit_to (fun _ _ h => h) (Zo (Za (GL.nil ?_)))
 exact Y1 I3 ⟨(-1), rfl, h⟩
def Qaz (C : Ctx) (p_as : Option (Nat × Nat)) (p_c : Int) (K : Bool → Heap → Prop) (H : Heap) : Prop :=
 nck p_as fun p1 =>
 ixr p1 256 p_c <|
 ldB H (p1.1, p1.2 + (p_c : Int).toNat * 1) fun x5 =>
 K x5 H
theorem QbM (C p_as p_c K H) (h : Qaz C p_as p_c K H) : QD C p_as p_c K H := by
 refine Ye Tryz.func182 rfl Tryz.ntmps182 [(0, pv p_as), (1, .int .u8 p_c)] (Zo (Za (GL.nil (Zo (Zm (Zm ?_))))))
 obtain ⟨p1, hp2, h⟩ := h
 refine Zv (OV.nilCheck (q := p_as) rfl hp2) ?_
 obtain ⟨ha3, hb4, h⟩ := h
 refine Zv (OV.indexAddrA (p := p1) rfl rfl rfl rfl ha3 hb4) (Yl h fun x5 h => ?_)
 refine Za (GL.nil ?_)
 exact Y1 I3 ⟨x5, rfl, h⟩
def Q4 (C : Ctx) (p_s : Str) (p_c : Int) (K : Int → Heap → Prop) (H : Heap) : Prop :=
 K (idxB p_s p_c) H
theorem Qbd (C p_s p_c K H) (h : Q4 C p_s p_c K H) : QI C p_s p_c K H := by
 refine Ye Tryz.func186 rfl Tryz.ntmps186 [(0, sv p_s), (1, .int .u8 p_c)] (Zo (Za (GL.nil (Zo (Zm (Zm (Zv (OV.ext QaW (vs := [sv p_s, .int .u8 p_c]) (v := .int .i64 (idxB p_s p_c)) rfl (fun w => QiS _ _ w)) (Za (GL.nil ?_)))))))))
 exact Y1 I3 ⟨(idxB p_s p_c), rfl, h⟩
end
end Sx
end
noncomputable section
set_option linter.unusedVariables false
namespace Go.Proofs
open Go.Shelf
def Tryz.lays173_ren : Go.Shelf.Ren := ⟨fun | 173 => 100 | 246 => 140 | 283 => 159 | 284 => 160 | 285 => 161 | 286 => 162 | 129 => 87 | 317 => 177 | 318 => 178 | 319 => 179 | 320 => 180 | 337 => 190 | 338 => 191 | n => n, fun | 2 => 2 | 3 => 3 | 9 => 9 | 4 => 4 | 171 => 187 | 0 => 0 | 53 => 124 | 37 => 134 | 5 => 5 | 173 => 189 | 212 => 203 | 51 => 122 | 20 => 20 | 213 => 204 | 46 => 100 | 232 => 212 | 233 => 213 | n => n, fun | 17 => 0 | 18 => 2 | 19 => 3 | n => n⟩
theorem Tryz.lays173 : Go.Proofs.LaysM.n173 Tryz.prog Tryz.lays173_ren := {
 mixed := by kernel_rfl
 f129 := Tryz.func87.trans (congrArg some (by kernel_rfl))
 f173 := Tryz.func100.trans (congrArg some (by kernel_rfl))
 f246 := Tryz.func140.trans (congrArg some (by kernel_rfl))
 f283 := Tryz.func159.trans (congrArg some (by kernel_rfl))
 f284 := Tryz.func160.trans (congrArg some (by kernel_rfl))
 f285 := Tryz.func161.trans (congrArg some (by kernel_rfl))
 f286 := Tryz.func162.trans (congrArg some (by kernel_rfl))
 f317 := Tryz.func177.trans (congrArg some (by kernel_rfl))
 f318 := Tryz.func178.trans (congrArg some (by kernel_rfl))
 f319 := Tryz.func179.trans (congrArg some (by kernel_rfl))
 f320 := Tryz.func180.trans (congrArg some (by kernel_rfl))
 f337 := Tryz.func190.trans (congrArg some (by kernel_rfl))
 f338 := Tryz.func191.trans (congrArg some (by kernel_rfl))
 t0 := Tryz.underlying0
 a0 := Tryz.isAgg0
 z0 := Tryz.sizeOf0
 v0 := Tryz.zeroValue0
 t2 := Tryz.underlying2
 a2 := Tryz.isAgg2
 z2 := Tryz.sizeOf2
 v2 := Tryz.zeroValue2
 t3 := Tryz.underlying3
 a3 := Tryz.isAgg3
 z3 := Tryz.sizeOf3
 v3 := Tryz.zeroValue3
 t4 := Tryz.underlying4
 a4 := Tryz.isAgg4
 z4 := Tryz.sizeOf4
 v4 := Tryz.zeroValue4
 t5 := Tryz.underlying5
 a5 := Tryz.isAgg5
 z5 := Tryz.sizeOf5
 v5 := Tryz.zeroValue5
 t9 := Tryz.underlying9
 a9 := Tryz.isAgg9
 z9 := Tryz.sizeOf9
 v9 := Tryz.zeroValue9
 t20 := Tryz.underlying20
 a20 := Tryz.isAgg20
 z20 := Tryz.sizeOf20
 v20 := Tryz.zeroValue20
 t37 := Tryz.underlying134
 a37 := Tryz.isAgg134
 z37 := Tryz.sizeOf134
 v37 := Tryz.zeroValue134
 t46 := Tryz.underlying100
 a46 := Tryz.isAgg100
 z46 := Tryz.sizeOf100
 v46 := Tryz.zeroValue100
 t51 := Tryz.underlying122
 a51 := Tryz.isAgg122
 z51 := Tryz.sizeOf122
 v51 := Tryz.zeroValue122
 t53 := Tryz.underlying124
 a53 := Tryz.isAgg124
 z53 := Tryz.sizeOf124
 v53 := Tryz.zeroValue124
 t171 := Tryz.underlying187
 a171 := Tryz.isAgg187
 z171 := Tryz.sizeOf187
 v171 := Tryz.zeroValue187
 t173 := Tryz.underlying189
 a173 := Tryz.isAgg189
 z173 := Tryz.sizeOf189
 v173 := Tryz.zeroValue189
 t212 := Tryz.underlying203
 a212 := Tryz.isAgg203
 z212 := Tryz.sizeOf203
 v212 := Tryz.zeroValue203
 t213 := Tryz.underlying204
 a213 := Tryz.isAgg204
 z213 := Tryz.sizeOf204
 t232 := Tryz.underlying212
 a232 := Tryz.isAgg212
 z232 := Tryz.sizeOf212
 v232 := Tryz.zeroValue212
 t233 := Tryz.underlying213
 a233 := Tryz.isAgg213
 z233 := Tryz.sizeOf213
 v233 := Tryz.zeroValue213
 g17 := by kernel_rfl
 g18 := by kernel_rfl
 g19 := by kernel_rfl
 i0 := by kernel_rfl
 i2 := by kernel_rfl
 i3 := by kernel_rfl
 i4 := by kernel_rfl
 i5 := by kernel_rfl
 i9 := by kernel_rfl
 i20 := by kernel_rfl
 i37 := by kernel_rfl
 i46 := by kernel_rfl
 i51 := by kernel_rfl
 i53 := by kernel_rfl
 i171 := by kernel_rfl
 i173 := by kernel_rfl
 i212 := by kernel_rfl
 i232 := by kernel_rfl
 i233 := by kernel_rfl
 m17 := by kernel_rfl
 m18 := by kernel_rfl
 m19 := by kernel_rfl }
end Go.Proofs
namespace Sx
open Go Go.Proofs Go.Stop Go.RowKit
/-- the table of powers, as it was laid -/
def PowT (C : Ctx) : Prop := ∃ t fr, C.old[(Tryz.lays173_ren.g 17)]? = some (.cells (Lib.pow10Tab.map fun z => Value.int .u64 z).toArray t fr)
/-- what writes numbers -/
structure FmtC (C : Ctx) : Prop where
 ok : ∀ {n : Int} {H : Heap} {K : Str → Heap → Prop}, -9223372036854775808 ≤ n → n ≤ 9223372036854775807 → K (Lib.itoa n) H → QbS C n 10 K H
theorem St.more {C : Ctx} {w : World} {H : Heap} (h : St C w H) (o : Obj) : St C { w with heap := w.heap.push o } H := by
 by_cases hc : ∃ c t fr, o = .cells c t fr
 ·obtain ⟨c, t, fr, rfl⟩ := hc
  exact (h.push (o := .cells c t fr) (m := false) (g := .row c.toList) ⟨by simp, fun h => by cases h⟩).weaken (Heap.le_put h.fresh)
 ·exact (h.push (o := o) (m := false) (g := .obj o) ⟨rfl, fun c t fr e => hc ⟨c, t, fr, e⟩⟩).weaken (Heap.le_put h.fresh)
theorem St.growL {C : Ctx} {H : Heap} : ∀ (os : List Obj) {w : World}, St C w H → St C { w with heap := w.heap ++ os.toArray } H
 | [], w, h => by
  have e : w.heap ++ ([] : List Obj).toArray = w.heap := by simp
  rw [e]; exact h
 | o :: os, w, h => by
  have e : w.heap ++ (o :: os).toArray = w.heap.push o ++ os.toArray := by apply Array.ext'; simp
  have := St.growL os (h.more o)
  rw [e]; exact this
theorem St.drewN {C : Ctx} {H : Heap} {w : World} (h : St C w H) : ∀ k, St C (w.drewN k) H
 | 0 => h
 | k + 1 => (St.drewN h k).drew
theorem QjC {C : Ctx} (hT : PowT C) : FmtC C := ⟨fun {n H K} h0 h1 k => by
 intro w hw
 obtain ⟨t, fr, hg⟩ := hT
 have hlt := (Array.getElem?_eq_some_iff.1 hg).1
 refine (Any.strconv_FormatInt_10 Tryz.lays173 n h0 h1 w ?_).mono ?_
 ·unfold Lib.TabIs World.var?
  rw [Tryz.lays173.m17]
  simp only [Option.bind_some]
  rw [hw.old _ hlt, hg]
 ·rintro e w' ⟨rfl, k', os, rfl⟩
  have h2 := St.growL os.toList (hw.drewN k')
  rw [Array.toArray_toList] at h2
  exact ⟨_, H, rfl, h2, ⟨_, rfl, k⟩⟩⟩
theorem Qhf {W : World} {name : String} (hg : Tryz.prog.globalNamed name = some (Tryz.lays173_ren.g 17)) : ∀ (i : Nat) {l : List (String × DataW Unit)} {ps : List MemPlace}, DataW.LaidVars Tryz.prog W l ps → l[i]? = some (name, Lib.tabData .u64 Lib.pow10Tab) → PowT (ctxOf W)
 | _, [], ps, _, hi => by simp at hi
 | 0, (n, d) :: r, ps, ⟨g, t, cs, fuel, p, q, h1, h2, h3, h4, h5, h6⟩, hi => by
  simp only [List.getElem?_cons_zero, Option.some.injEq, Prod.mk.injEq] at hi
  obtain ⟨rfl, rfl⟩ := hi
  obtain rfl := Option.some.inj (hg.symm.trans h1)
  have hT : (Tryz.prog.globals[(Tryz.lays173_ren.g 17)]?).map (·.type) = some 203 := by kernel_rfl
  obtain rfl := Option.some.inj (hT.symm.trans h2)
  have hc := Lib.cells_of_tab Tryz.underlying203 Tryz.underlying124 (by kernel_rfl) (by kernel_rfl) h4
  unfold World.var? at h3
  rw [h1] at h3
  simp only [Option.bind_some] at h3
  cases hb : W.heap[(Tryz.lays173_ren.g 17)]? with
  | none => rw [hb] at h3; cases h3
  | some o =>
   rw [hb] at h3
   cases o <;> simp only [reduceCtorEq, Option.some.injEq] at h3
   rename_i c ty fr
   subst h3
   refine ⟨ty, fr, ?_⟩
   show W.heap[(Tryz.lays173_ren.g 17)]? = _
   rw [hb, ← hc]
 | i + 1, (n, d) :: r, ps, ⟨g, t, cs, fuel, p, q, h1, h2, h3, h4, h5, h6⟩, hi => Qhf hg i h5 (by simpa using hi)
theorem Qjs {W : World} {name : String} {l : List (String × DataW Unit)} (h : laidMet Tryz.prog l W) (i : Nat) (hi : l[i]? = some (name, Lib.tabData .u64 Lib.pow10Tab)) (hg : Tryz.prog.globalNamed name = some (Tryz.lays173_ren.g 17)) : PowT (ctxOf W) := by
 obtain ⟨ps, h1, _⟩ := h
 exact Qhf hg i h1 hi
end Sx
end

noncomputable section
set_option linter.unusedVariables false
namespace Go.Proofs
open Go.Shelf
def Tryz.laysSrt_ren : Go.Shelf.Ren := ⟨fun | 6 => 55 | 15 => 62 | 14 => 73 | 28 => 86 | 29 => 87 | 20 => 104 | 21 => 105 | 22 => 106 | 23 => 107 | 24 => 108 | 25 => 109 | 26 => 110 | 27 => 111 | 46 => 141 | 47 => 127 | 48 => 128 | 49 => 142 | 50 => 143 | 57 => 163 | n => n, fun | 22 => 53 | 24 => 28 | 25 => 58 | 3 => 3 | 39 => 100 | 0 => 0 | 53 => 122 | 55 => 124 | 4 => 4 | 46 => 116 | 45 => 115 | 50 => 107 | 5 => 5 | 9 => 9 | 66 => 160 | 70 => 164 | 76 => 177 | 77 => 178 | n => n, fun | n => n⟩
theorem Tryz.laysSrt : Go.Proofs.SlLaysF.n6 Tryz.prog Tryz.laysSrt_ren := {
 mixed := by kernel_rfl
 f6 := ⟨Tryz.f55.name, by decide, Tryz.func55.trans (congrArg some (by kernel_rfl))⟩
 f14 := ⟨Tryz.f73.name, by decide, Tryz.func73.trans (congrArg some (by kernel_rfl))⟩
 f15 := Tryz.func62.trans (congrArg some (by kernel_rfl))
 f20 := ⟨Tryz.f104.name, by decide, Tryz.func104.trans (congrArg some (by kernel_rfl))⟩
 f21 := ⟨Tryz.f105.name, by decide, Tryz.func105.trans (congrArg some (by kernel_rfl))⟩
 f22 := ⟨Tryz.f106.name, by decide, Tryz.func106.trans (congrArg some (by kernel_rfl))⟩
 f23 := ⟨Tryz.f107.name, by decide, Tryz.func107.trans (congrArg some (by kernel_rfl))⟩
 f24 := ⟨Tryz.f108.name, by decide, Tryz.func108.trans (congrArg some (by kernel_rfl))⟩
 f25 := ⟨Tryz.f109.name, by decide, Tryz.func109.trans (congrArg some (by kernel_rfl))⟩
 f26 := ⟨Tryz.f110.name, by decide, Tryz.func110.trans (congrArg some (by kernel_rfl))⟩
 f27 := ⟨Tryz.f111.name, by decide, Tryz.func111.trans (congrArg some (by kernel_rfl))⟩
 f28 := Tryz.func86.trans (congrArg some (by kernel_rfl))
 f29 := Tryz.func87.trans (congrArg some (by kernel_rfl))
 f46 := ⟨Tryz.f141.name, by decide, Tryz.func141.trans (congrArg some (by kernel_rfl))⟩
 f47 := Tryz.func127.trans (congrArg some (by kernel_rfl))
 f48 := Tryz.func128.trans (congrArg some (by kernel_rfl))
 f49 := ⟨Tryz.f142.name, by decide, Tryz.func142.trans (congrArg some (by kernel_rfl))⟩
 f50 := ⟨Tryz.f143.name, by decide, Tryz.func143.trans (congrArg some (by kernel_rfl))⟩
 f57 := ⟨Tryz.f163.name, by decide, Tryz.func163.trans (congrArg some (by kernel_rfl))⟩
 t0 := Tryz.underlying0
 a0 := Tryz.isAgg0
 z0 := Tryz.sizeOf0
 v0 := Tryz.zeroValue0
 t3 := Tryz.underlying3
 a3 := Tryz.isAgg3
 z3 := Tryz.sizeOf3
 v3 := Tryz.zeroValue3
 t4 := Tryz.underlying4
 a4 := Tryz.isAgg4
 z4 := Tryz.sizeOf4
 v4 := Tryz.zeroValue4
 t5 := Tryz.underlying5
 a5 := Tryz.isAgg5
 z5 := Tryz.sizeOf5
 v5 := Tryz.zeroValue5
 t9 := Tryz.underlying9
 a9 := Tryz.isAgg9
 z9 := Tryz.sizeOf9
 v9 := Tryz.zeroValue9
 t22 := Tryz.underlying53
 a22 := Tryz.isAgg53
 z22 := Tryz.sizeOf53
 v22 := Tryz.zeroValue53
 a24 := Tryz.isAgg28
 z24 := Tryz.sizeOf28
 t25 := Tryz.underlying58
 a25 := Tryz.isAgg58
 z25 := Tryz.sizeOf58
 v25 := Tryz.zeroValue58
 t39 := Tryz.underlying100
 a39 := Tryz.isAgg100
 z39 := Tryz.sizeOf100
 v39 := Tryz.zeroValue100
 t45 := Tryz.underlying115
 a45 := Tryz.isAgg115
 z45 := Tryz.sizeOf115
 v45 := Tryz.zeroValue115
 t46 := Tryz.underlying116
 a46 := Tryz.isAgg116
 z46 := Tryz.sizeOf116
 v46 := Tryz.zeroValue116
 t50 := Tryz.underlying107
 a50 := Tryz.isAgg107
 z50 := Tryz.sizeOf107
 v50 := Tryz.zeroValue107
 t53 := Tryz.underlying122
 a53 := Tryz.isAgg122
 z53 := Tryz.sizeOf122
 v53 := Tryz.zeroValue122
 t55 := Tryz.underlying124
 a55 := Tryz.isAgg124
 z55 := Tryz.sizeOf124
 v55 := Tryz.zeroValue124
 t66 := Tryz.underlying160
 a66 := Tryz.isAgg160
 z66 := Tryz.sizeOf160
 v66 := Tryz.zeroValue160
 t70 := Tryz.underlying164
 a70 := Tryz.isAgg164
 z70 := Tryz.sizeOf164
 v70 := Tryz.zeroValue164
 t76 := Tryz.underlying177
 a76 := Tryz.isAgg177
 z76 := Tryz.sizeOf177
 v76 := Tryz.zeroValue177
 t77 := Tryz.underlying178
 a77 := Tryz.isAgg178
 z77 := Tryz.sizeOf178
 v77 := Tryz.zeroValue178 }
end Go.Proofs
end

noncomputable section
set_option linter.unusedVariables false
namespace Go.Proofs
open Go.Shelf
def Tryz.laysSrk_ren : Go.Shelf.Ren := ⟨fun | 6 => 33 | 15 => 62 | 14 => 61 | 28 => 86 | 29 => 87 | 20 => 78 | 21 => 79 | 22 => 80 | 23 => 81 | 24 => 82 | 25 => 83 | 26 => 84 | 27 => 85 | 46 => 126 | 47 => 127 | 48 => 128 | 49 => 129 | 50 => 130 | 57 => 150 | n => n, fun | 22 => 36 | 24 => 43 | 25 => 79 | 3 => 3 | 39 => 100 | 0 => 0 | 53 => 122 | 55 => 124 | 4 => 4 | 46 => 116 | 45 => 115 | 50 => 107 | 5 => 5 | 9 => 9 | 66 => 160 | 70 => 164 | 76 => 177 | 77 => 178 | n => n, fun | n => n⟩
theorem Tryz.laysSrk : Go.Proofs.SlLaysF0.n6 Tryz.prog Tryz.laysSrk_ren := {
 mixed := by kernel_rfl
 f6 := ⟨Tryz.f33.name, by decide, Tryz.func33.trans (congrArg some (by kernel_rfl))⟩
 f14 := ⟨Tryz.f61.name, by decide, Tryz.func61.trans (congrArg some (by kernel_rfl))⟩
 f15 := Tryz.func62.trans (congrArg some (by kernel_rfl))
 f20 := ⟨Tryz.f78.name, by decide, Tryz.func78.trans (congrArg some (by kernel_rfl))⟩
 f21 := ⟨Tryz.f79.name, by decide, Tryz.func79.trans (congrArg some (by kernel_rfl))⟩
 f22 := ⟨Tryz.f80.name, by decide, Tryz.func80.trans (congrArg some (by kernel_rfl))⟩
 f23 := ⟨Tryz.f81.name, by decide, Tryz.func81.trans (congrArg some (by kernel_rfl))⟩
 f24 := ⟨Tryz.f82.name, by decide, Tryz.func82.trans (congrArg some (by kernel_rfl))⟩
 f25 := ⟨Tryz.f83.name, by decide, Tryz.func83.trans (congrArg some (by kernel_rfl))⟩
 f26 := ⟨Tryz.f84.name, by decide, Tryz.func84.trans (congrArg some (by kernel_rfl))⟩
 f27 := ⟨Tryz.f85.name, by decide, Tryz.func85.trans (congrArg some (by kernel_rfl))⟩
 f28 := Tryz.func86.trans (congrArg some (by kernel_rfl))
 f29 := Tryz.func87.trans (congrArg some (by kernel_rfl))
 f46 := ⟨Tryz.f126.name, by decide, Tryz.func126.trans (congrArg some (by kernel_rfl))⟩
 f47 := Tryz.func127.trans (congrArg some (by kernel_rfl))
 f48 := Tryz.func128.trans (congrArg some (by kernel_rfl))
 f49 := ⟨Tryz.f129.name, by decide, Tryz.func129.trans (congrArg some (by kernel_rfl))⟩
 f50 := ⟨Tryz.f130.name, by decide, Tryz.func130.trans (congrArg some (by kernel_rfl))⟩
 f57 := ⟨Tryz.f150.name, by decide, Tryz.func150.trans (congrArg some (by kernel_rfl))⟩
 t0 := Tryz.underlying0
 a0 := Tryz.isAgg0
 z0 := Tryz.sizeOf0
 v0 := Tryz.zeroValue0
 t3 := Tryz.underlying3
 a3 := Tryz.isAgg3
 z3 := Tryz.sizeOf3
 v3 := Tryz.zeroValue3
 t4 := Tryz.underlying4
 a4 := Tryz.isAgg4
 z4 := Tryz.sizeOf4
 v4 := Tryz.zeroValue4
 t5 := Tryz.underlying5
 a5 := Tryz.isAgg5
 z5 := Tryz.sizeOf5
 v5 := Tryz.zeroValue5
 t9 := Tryz.underlying9
 a9 := Tryz.isAgg9
 z9 := Tryz.sizeOf9
 v9 := Tryz.zeroValue9
 t22 := Tryz.underlying36
 a22 := Tryz.isAgg36
 z22 := Tryz.sizeOf36
 v22 := Tryz.zeroValue36
 t25 := Tryz.underlying79
 a25 := Tryz.isAgg79
 z25 := Tryz.sizeOf79
 v25 := Tryz.zeroValue79
 t39 := Tryz.underlying100
 a39 := Tryz.isAgg100
 z39 := Tryz.sizeOf100
 v39 := Tryz.zeroValue100
 t45 := Tryz.underlying115
 a45 := Tryz.isAgg115
 z45 := Tryz.sizeOf115
 v45 := Tryz.zeroValue115
 t46 := Tryz.underlying116
 a46 := Tryz.isAgg116
 z46 := Tryz.sizeOf116
 v46 := Tryz.zeroValue116
 t50 := Tryz.underlying107
 a50 := Tryz.isAgg107
 z50 := Tryz.sizeOf107
 v50 := Tryz.zeroValue107
 t53 := Tryz.underlying122
 a53 := Tryz.isAgg122
 z53 := Tryz.sizeOf122
 v53 := Tryz.zeroValue122
 t55 := Tryz.underlying124
 a55 := Tryz.isAgg124
 z55 := Tryz.sizeOf124
 v55 := Tryz.zeroValue124
 t66 := Tryz.underlying160
 a66 := Tryz.isAgg160
 z66 := Tryz.sizeOf160
 v66 := Tryz.zeroValue160
 t70 := Tryz.underlying164
 a70 := Tryz.isAgg164
 z70 := Tryz.sizeOf164
 v70 := Tryz.zeroValue164
 t76 := Tryz.underlying177
 a76 := Tryz.isAgg177
 z76 := Tryz.sizeOf177
 v76 := Tryz.zeroValue177
 t77 := Tryz.underlying178
 a77 := Tryz.isAgg178
 z77 := Tryz.sizeOf178
 v77 := Tryz.zeroValue178 }
end Go.Proofs
end

noncomputable section
set_option linter.unusedVariables false
namespace Go.Proofs
open Go.Shelf
def Tryz.lays190_ren : Go.Shelf.Ren := ⟨fun | 190 => 56 | 125 => 62 | 258 => 74 | 128 => 86 | 129 => 87 | 302 => 112 | 303 => 113 | 304 => 114 | 305 => 115 | 306 => 116 | 307 => 117 | 308 => 118 | 309 => 119 | 310 => 120 | 333 => 144 | 329 => 127 | 330 => 128 | 334 => 145 | 335 => 146 | 336 => 63 | 344 => 164 | n => n, fun | 31 => 50 | 9 => 9 | 3 => 3 | 46 => 100 | 0 => 0 | 51 => 122 | 53 => 124 | 4 => 4 | 183 => 116 | 182 => 115 | 131 => 107 | 5 => 5 | 218 => 160 | 222 => 164 | 228 => 177 | 229 => 178 | n => n, fun | n => n⟩
theorem Tryz.lays190 : Go.Proofs.Lays.n190 Tryz.prog Tryz.lays190_ren := {
 mixed := by kernel_rfl
 f125 := Tryz.func62.trans (congrArg some (by kernel_rfl))
 f128 := Tryz.func86.trans (congrArg some (by kernel_rfl))
 f129 := Tryz.func87.trans (congrArg some (by kernel_rfl))
 f190 := Tryz.func56.trans (congrArg some (by kernel_rfl))
 f258 := Tryz.func74.trans (congrArg some (by kernel_rfl))
 f302 := Tryz.func112.trans (congrArg some (by kernel_rfl))
 f303 := Tryz.func113.trans (congrArg some (by kernel_rfl))
 f304 := Tryz.func114.trans (congrArg some (by kernel_rfl))
 f305 := Tryz.func115.trans (congrArg some (by kernel_rfl))
 f306 := Tryz.func116.trans (congrArg some (by kernel_rfl))
 f307 := Tryz.func117.trans (congrArg some (by kernel_rfl))
 f308 := Tryz.func118.trans (congrArg some (by kernel_rfl))
 f309 := Tryz.func119.trans (congrArg some (by kernel_rfl))
 f310 := Tryz.func120.trans (congrArg some (by kernel_rfl))
 f329 := Tryz.func127.trans (congrArg some (by kernel_rfl))
 f330 := Tryz.func128.trans (congrArg some (by kernel_rfl))
 f333 := Tryz.func144.trans (congrArg some (by kernel_rfl))
 f334 := Tryz.func145.trans (congrArg some (by kernel_rfl))
 f335 := Tryz.func146.trans (congrArg some (by kernel_rfl))
 f336 := Tryz.func63.trans (congrArg some (by kernel_rfl))
 f344 := Tryz.func164.trans (congrArg some (by kernel_rfl))
 t0 := Tryz.underlying0
 a0 := Tryz.isAgg0
 z0 := Tryz.sizeOf0
 v0 := Tryz.zeroValue0
 t3 := Tryz.underlying3
 a3 := Tryz.isAgg3
 z3 := Tryz.sizeOf3
 v3 := Tryz.zeroValue3
 t4 := Tryz.underlying4
 a4 := Tryz.isAgg4
 z4 := Tryz.sizeOf4
 v4 := Tryz.zeroValue4
 t5 := Tryz.underlying5
 a5 := Tryz.isAgg5
 z5 := Tryz.sizeOf5
 v5 := Tryz.zeroValue5
 t9 := Tryz.underlying9
 a9 := Tryz.isAgg9
 z9 := Tryz.sizeOf9
 v9 := Tryz.zeroValue9
 t31 := Tryz.underlying50
 a31 := Tryz.isAgg50
 z31 := Tryz.sizeOf50
 v31 := Tryz.zeroValue50
 t46 := Tryz.underlying100
 a46 := Tryz.isAgg100
 z46 := Tryz.sizeOf100
 v46 := Tryz.zeroValue100
 t51 := Tryz.underlying122
 a51 := Tryz.isAgg122
 z51 := Tryz.sizeOf122
 v51 := Tryz.zeroValue122
 t53 := Tryz.underlying124
 a53 := Tryz.isAgg124
 z53 := Tryz.sizeOf124
 v53 := Tryz.zeroValue124
 t131 := Tryz.underlying107
 a131 := Tryz.isAgg107
 z131 := Tryz.sizeOf107
 v131 := Tryz.zeroValue107
 t182 := Tryz.underlying115
 a182 := Tryz.isAgg115
 z182 := Tryz.sizeOf115
 v182 := Tryz.zeroValue115
 t183 := Tryz.underlying116
 a183 := Tryz.isAgg116
 z183 := Tryz.sizeOf116
 v183 := Tryz.zeroValue116
 t218 := Tryz.underlying160
 a218 := Tryz.isAgg160
 z218 := Tryz.sizeOf160
 v218 := Tryz.zeroValue160
 t222 := Tryz.underlying164
 a222 := Tryz.isAgg164
 z222 := Tryz.sizeOf164
 v222 := Tryz.zeroValue164
 t228 := Tryz.underlying177
 a228 := Tryz.isAgg177
 z228 := Tryz.sizeOf177
 v228 := Tryz.zeroValue177
 t229 := Tryz.underlying178
 a229 := Tryz.isAgg178
 z229 := Tryz.sizeOf178
 v229 := Tryz.zeroValue178 }
end Go.Proofs
end

